/-
  hauberkref05.Mean says what LexP.mean says.
-/
import Derived.Test.YtjegaejdphmdgaaDoorPl
import Derived.Test.YtjegaejdphmdgaaDoorPrA3
namespace Go.Proofs.YtjegaejdphmdgaaDoor.Print
open Go.RowKit Go.Lib Go.Proofs.YtjegaejdphmdgaaDoorW.PrintWords Go.Proofs.YtjegaejdphmdgaaDoor.LexP
set_option linter.unusedVariables false
theorem ref_digit_plain (c : UInt8) : hauberkref05_digit.f (c.toNat : Int) = some (isDigit c) := all_bytes (P := fun c => hauberkref05_digit.f (c.toNat : Int) = some (isDigit c)) (by decide +kernel) c
def rm (o : Option Nat) : Int × Bool := match o with | some n => ((n : Int), true) | none => (0, false)
theorem over10 (acc d : Nat) (hd : d < 16) : ((acc : Int) > IntKind.u64.wrap (Int.tdiv (9223372036854775807 - (d : Int)) 10)) ↔ ¬ acc * 10 + d < 9223372036854775808 := by
  rw [Int.tdiv_eq_ediv_of_nonneg (by omega), IntKind.wrap_u64]; omega
theorem over16 (acc d : Nat) (hd : d < 16) : ((acc : Int) > IntKind.u64.wrap (Int.tdiv (9223372036854775807 - (d : Int)) 16)) ↔ ¬ acc * 16 + d < 9223372036854775808 := by
  rw [Int.tdiv_eq_ediv_of_nonneg (by omega), IntKind.wrap_u64]; omega
theorem over (B acc d : Nat) (hB : B = 10 ∨ B = 16) (hd : d < 16) : ((acc : Int) > IntKind.u64.wrap (Int.tdiv (9223372036854775807 - (d : Int)) (B : Int))) ↔ ¬ acc * B + d < 9223372036854775808 := by
  rcases hB with rfl | rfl
  · exact over10 acc d hd
  · exact over16 acc d hd
theorem next (B acc d : Nat) (h : acc * B + d < 9223372036854775808) : IntKind.u64.wrap ((IntKind.u64.wrap ((acc : Int) * (B : Int))) + (d : Int)) = ((acc * B + d : Nat) : Int) := by
  have hm : (acc : Int) * (B : Int) = ((acc * B : Nat) : Int) := (Int.natCast_mul acc B).symm
  rw [hm]
  generalize acc * B = m at h ⊢
  rw [IntKind.wrap_u64, IntKind.wrap_u64]; omega
theorem dig_digit {B : Nat} {c : UInt8} (h : isDigit c = true) : dig B c = some (c.toNat - 48) ∧ 48 ≤ c.toNat ∧ c.toNat ≤ 57 := by
  refine ⟨by unfold dig; rw [if_pos h], ?_⟩
  unfold isDigit at h
  simp only [Bool.and_eq_true, decide_eq_true_eq] at h
  exact ⟨UInt8.le_iff_toNat_le.1 h.1, UInt8.le_iff_toNat_le.1 h.2⟩
theorem ref_num (s : ByteArray) (hs : s.size ≤ 140737488351232) (B : Nat) (hB : B = 10 ∨ B = 16) : ∀ (m k n acc : Nat), n ≤ s.size → s.size - n = m → 2 * m < k → acc < 9223372036854775808 →
    hauberkref05_Mean.l0 k s (n : Int) (B : Int) (acc : Int) = some (rm (num B acc (s.data.toList.drop n))) := by
  intro m
  have hB0 : ¬ (B : Int) = 0 := by omega
  induction m with
  | zero =>
    intro k n acc hn hm hk ha
    obtain ⟨k, rfl⟩ : ∃ j, k = j + 1 := ⟨k - 1, by omega⟩
    simp only [hauberkref05_Mean.l0]
    rw [if_neg (by omega), List.drop_eq_nil_of_le (by rw [size_len]; omega)]
    rfl
  | succ m ih =>
    intro k n acc hn hm hk ha
    obtain ⟨k, rfl⟩ : ∃ j, k = j + 1 := ⟨k - 1, by omega⟩
    have hk' : n < s.data.size := by show n < s.size; omega
    obtain ⟨c, hdrop⟩ : ∃ c, s.data.toList.drop n = c :: s.data.toList.drop (n + 1) := ⟨_, List.drop_eq_getElem_cons (by simpa using hk')⟩
    have hb := bt_nat s n hdrop
    have hc256 := c.toNat_lt
    simp only [hauberkref05_Mean.l0]
    rw [if_pos (by omega), if_pos (by omega), hb, ref_digit_plain, wrap_small (by omega) (by omega), show (n : Int) + 1 = ((n + 1 : Nat) : Int) by omega, hdrop]
    simp only [Option.bind_some]
    by_cases h1 : isDigit c = true
    · obtain ⟨hd, h48, h57⟩ := dig_digit (B := B) h1
      rw [if_pos h1]
      have hmod : ((c.toNat : Int) - 48) % 256 = ((c.toNat - 48 : Nat) : Int) := by omega
      rw [hmod, if_neg (by omega), if_neg hB0]
      unfold num
      rw [hd]
      simp only []
      by_cases hov : acc * B + (c.toNat - 48) < 9223372036854775808
      · rw [if_neg (fun h => (over B acc _ hB (by omega)).1 h hov), if_pos hov, next B acc _ hov]
        exact ih k (n + 1) _ (by omega) (by omega) (by omega) hov
      · rw [if_pos ((over B acc _ hB (by omega)).2 hov), if_neg hov]; rfl
    · rw [if_neg h1]
      obtain ⟨k, rfl⟩ : ∃ j, k = j + 1 := ⟨k - 1, by omega⟩
      by_cases h2 : 97 ≤ c ∧ c ≤ 102
      · have g1 := (nat_le (a := 97)).2 h2.1
        have g2 := (nat_le (b := 102)).2 h2.2
        have g1' : (97 : Int) ≤ (c.toNat : Int) := g1
        have g2' : (c.toNat : Int) ≤ 102 := g2
        rw [if_pos g1', decide_eq_true g2']
        simp only [hauberkref05_Mean.j4, if_true]
        rw [if_pos (by omega), if_pos (by omega), hb]
        have hmod : ((c.toNat : Int) - 97) % 256 + 10 = ((c.toNat - 87 : Nat) : Int) := by omega
        rw [hmod]
        rcases hB with rfl | rfl
        · rw [if_pos (by omega)]
          have hd : dig 10 c = none := by unfold dig; rw [if_neg h1, if_neg (by rintro ⟨h, _⟩; cases h)]
          unfold num; rw [hd]; rfl
        · have hd : dig 16 c = some (c.toNat - 87) := by unfold dig; rw [if_neg h1, if_pos ⟨rfl, h2.1, h2.2⟩]
          rw [if_neg (by omega), if_neg hB0]
          unfold num
          rw [hd]
          simp only []
          by_cases hov : acc * 16 + (c.toNat - 87) < 9223372036854775808
          · rw [if_neg (fun h => (over 16 acc _ (.inr rfl) (by omega)).1 h hov), if_pos hov, wrap_small (by omega) (by omega), show (n : Int) + 1 = ((n + 1 : Nat) : Int) by omega, next 16 acc _ hov]
            exact ih k (n + 1) _ (by omega) (by omega) (by omega) hov
          · rw [if_pos ((over 16 acc _ (.inr rfl) (by omega)).2 hov), if_neg hov]; rfl
      · have hd : dig B c = none := by unfold dig; rw [if_neg h1, if_neg (fun h => h2 h.2)]
        unfold num
        rw [hd]
        have hj : hauberkref05_Mean.j4 (k + 1) s (n : Int) (B : Int) (acc : Int) 99 false = some (0, false) := by
          simp only [hauberkref05_Mean.j4, Bool.false_eq_true, if_false]
          rw [if_pos (by omega)]
        by_cases g : (c.toNat : Int) ≥ 97
        · have hf : decide ((c.toNat : Int) ≤ 102) = false := decide_eq_false (fun h => h2 ⟨(nat_le (a := 97)).1 g, (nat_le (b := 102)).1 h⟩)
          rw [if_pos g, hf, hj]; rfl
        · rw [if_neg g, hj]; rfl
theorem ref_starts (s : ByteArray) (k : Nat) (p : ByteArray) (hs : s.size ≤ 140737488351232) (hp : p.size ≤ 100) (hk : k ≤ s.size) : hauberkref05_starts.f s (k : Int) p = some (Lib.hasPrefix (s.data.toList.drop k) p.data.toList) := by
  unfold hauberkref05_starts.f
  rw [wrap_small (by omega) (by omega)]
  by_cases h : k + p.size ≤ s.size
  · have e : ((k : Int) + (p.size : Int)).toNat = k + p.size := by omega
    rw [if_pos (by omega), if_pos (by omega), if_pos (by omega), e, Int.toNat_natCast]
    have h1 := Lib.hasPrefix_of_take (s.data.toList.drop k) p.data.toList
    rw [← h1, Lib.toList_data, Lib.toList_data, Lib.extract_data, ← Lib.size_eq, show k + p.size - k = p.size by omega, decide_eq_true (by rw [List.length_drop, size_len]; omega), Bool.true_and]
  · rw [if_neg (by omega)]
    have hf : Lib.hasPrefix (s.data.toList.drop k) p.data.toList = false := Bool.eq_false_iff.2 (fun hh => h (by have := prefix_len hh; rw [List.length_drop, size_len, ← Lib.size_eq] at this; omega))
    rw [hf]
theorem rj0_false (s : ByteArray) (k : Nat) (hs : s.size ≤ 140737488351232) (hk : 2 * s.size + 4 ≤ k) : hauberkref05_Mean.j0 k s false = some (rm (meanNum s.data.toList)) := by
  obtain ⟨k, rfl⟩ : ∃ j, k = j + 1 := ⟨k - 1, by omega⟩
  obtain ⟨k, rfl⟩ : ∃ j, k = j + 1 := ⟨k - 1, by omega⟩
  have ht : hauberkref05_Mean.j1 (k + 1) s true = some (0, false) := by simp [hauberkref05_Mean.j1]
  simp only [hauberkref05_Mean.j0, Bool.false_eq_true, if_false]
  cases hl : s.data.toList with
  | nil =>
    have : s.toList = [] := by rw [Lib.toList_data, hl]
    rw [if_pos this, ht]; rfl
  | cons c t =>
    have hne : ¬ s.toList = [] := by rw [Lib.toList_data, hl]; simp
    have hsz : s.size = t.length + 1 := by rw [← size_len, hl]; rfl
    have hb := bt_nat s 0 (c := c) (t := t) (by simpa using hl)
    rw [if_neg hne]
    by_cases h20 : (s.size : Int) > 20
    · rw [if_pos h20, ht, meanNum_long (by simp; omega)]; rfl
    · have h20' : ¬ 20 < (c :: t).length := by simp; omega
      rw [if_neg h20, if_pos (by omega), show bt s 0 = (c.toNat : Int) from hb, ref_digit_plain]
      simp only [Option.bind_some]
      by_cases hd : isDigit c = true
      · rw [hd, meanNum_digits h20' hd]
        simp only [Bool.not_true, hauberkref05_Mean.j1, Bool.false_eq_true, if_false]
        rw [show (0 : Int) = ((0 : Nat) : Int) from rfl, ref_starts s 0 _ hs (by decide) (by omega), List.drop_zero, hl]
        simp only [Option.bind_some]
        obtain ⟨k, rfl⟩ : ∃ j, k = j + 1 := ⟨k - 1, by omega⟩
        by_cases hp : Lib.hasPrefix (c :: t) [48, 120] = true
        · have h2 := prefix_len hp
          simp only [List.length_cons, List.length_nil] at h2
          rw [if_pos hp, if_pos hp]
          simp only [hauberkref05_Mean.j2]
          have hd2 : s.data.toList.drop 2 = t.drop 1 := by rw [hl]; rfl
          by_cases h0 : t.drop 1 = []
          · have : t.length ≤ 1 := by
              have := congrArg List.length h0
              simp at this; omega
            rw [if_pos (by omega), if_pos h0]; rfl
          · have : 1 < t.length := by
              rcases Nat.lt_or_ge 1 t.length with h | h
              · exact h
              · exact absurd (List.drop_eq_nil_of_le h) h0
            rw [if_neg (by omega), if_neg h0]
            have := ref_num s hs 16 (.inr rfl) (s.size - 2) k 2 0 (by omega) rfl (by omega) (by omega)
            rw [hd2] at this
            exact this
        · rw [if_neg hp, if_neg hp]
          simp only [hauberkref05_Mean.j2]
          rw [if_neg (by omega)]
          have := ref_num s hs 10 (.inl rfl) s.size k 0 0 (by omega) (by omega) (by omega) (by omega)
          rw [List.drop_zero, hl] at this
          exact this
      · rw [Bool.eq_false_iff.2 hd, meanNum_first hd]
        exact ht
theorem ref_Mean_plain (s : ByteArray) (k : Nat) (hs : s.size ≤ 140737488351232) (hk : 2 * s.size + 4 ≤ k) : hauberkref05_Mean.f k s = some (rm (mean s.data.toList)) := by
  unfold hauberkref05_Mean.f
  by_cases h3 : (s.size : Int) = 3
  · obtain ⟨a, b, c, hl⟩ := three (s := s) (by omega)
    have b0 := bt_nat s 0 (c := a) (t := [b, c]) (by rw [hl]; rfl)
    have b1 := bt_nat s 1 (c := b) (t := [c]) (by rw [hl]; rfl)
    have b2 := bt_nat s 2 (c := c) (t := []) (by rw [hl]; rfl)
    rw [if_pos h3, if_pos (by omega), show bt s 0 = (a.toNat : Int) from b0]
    have e39 : ∀ x : UInt8, ((x.toNat : Int) = 39) ↔ x = 39 := fun x => nat_eq (b := 39)
    have e92 : ∀ x : UInt8, ((x.toNat : Int) = 92) ↔ x = 92 := fun x => nat_eq (b := 92)
    by_cases ha : a = 39
    · have : ((a.toNat : Int) == 39) = true := by rw [ha]; rfl
      rw [this]
      obtain ⟨k, rfl⟩ : ∃ j, k = j + 1 := ⟨k - 1, by omega⟩
      simp only [hauberkref05_Mean.j0, if_true]
      rw [if_pos (by omega), show bt s 1 = (b.toNat : Int) from b1, show bt s 2 = (c.toNat : Int) from b2]
      subst ha
      rw [hl]
      by_cases hc : c = 39
      · subst hc
        rw [if_pos (show (((39 : UInt8).toNat : Int)) = 39 from rfl), if_pos (by omega)]
        unfold mean
        simp only []
        by_cases h1 : (b.toNat : Int) ≥ 32
        · rw [if_pos h1]
          by_cases h2 : (b.toNat : Int) ≤ 126
          · rw [if_pos h2]
            by_cases h4 : b = 39
            · rw [if_pos ((e39 b).2 h4), if_neg (fun h => h.2.2.1 h4)]; rfl
            · rw [if_neg (fun e => h4 ((e39 b).1 e))]
              by_cases h5 : b = 92
              · rw [if_pos ((e92 b).2 h5), if_neg (fun h => h.2.2.2 h5)]; rfl
              · rw [if_neg (fun e => h5 ((e92 b).1 e)), if_pos ⟨(nat_le (a := 32)).1 h1, (nat_le (b := 126)).1 h2, h4, h5⟩]
                have : IntKind.u64.wrap (b.toNat : Int) = (b.toNat : Int) := by rw [IntKind.wrap_u64]; have := b.toNat_lt; omega
                rw [this]; rfl
          · rw [if_neg h2, if_neg (fun h => h2 ((nat_le (b := 126)).2 h.2.1))]; rfl
        · rw [if_neg h1, if_neg (fun h => h1 ((nat_le (a := 32)).2 h.1))]; rfl
      · rw [if_neg (fun e => hc ((e39 c).1 e)), mean_else (by unfold quoted; split <;> simp_all), meanNum_first (by decide)]; rfl
    · have : ((a.toNat : Int) == 39) = false := by rw [beq_eq_false_iff_ne]; intro e; exact ha ((e39 a).1 e)
      rw [this, rj0_false s k hs hk, mean_else (by rw [hl]; unfold quoted; split <;> simp_all)]
  · rw [if_neg h3, rj0_false s k hs hk, mean_else]
    unfold quoted
    split
    · rename_i hl
      exact absurd (by rw [← size_len, hl]; rfl) h3
    · rfl
end Go.Proofs.YtjegaejdphmdgaaDoor.Print
