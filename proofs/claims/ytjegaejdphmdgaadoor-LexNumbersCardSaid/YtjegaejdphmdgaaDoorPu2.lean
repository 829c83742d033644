/-
  The plain laws LexNumbers, LexLimits: a number's digits mean it; rows of one sign and of blanks are read up to the limits.
-/
import Derived.Test.YtjegaejdphmdgaaDoorPu1
import Derived.Test.YtjegaejdphmdgaaDoorPrB5
namespace Go.Proofs.YtjegaejdphmdgaaDoor.Print
open Go.RowKit Go.Lib Go.Proofs.YtjegaejdphmdgaaDoorW.PrintWords Go.Proofs.YtjegaejdphmdgaaDoor.LexP
set_option linter.unusedVariables false

/-! ### digits -/
def ch (d : Nat) : UInt8 := [48, 49, 50, 51, 52, 53, 54, 55, 56, 57, 97, 98, 99, 100, 101, 102].getD d 48
def digs (B : Nat) : Nat → Nat → List UInt8
  | 0, _ => []
  | f + 1, x => if x = 0 then [] else digs B f (x / B) ++ [ch (x % B)]
def text (B f x : Nat) : List UInt8 := if x = 0 then [48] else digs B f x
theorem dig_ch10 (d : Nat) (h : d < 10) : dig 10 (ch d) = some d ∧ isDigit (ch d) = true := by
  have H : ∀ d : Fin 10, dig 10 (ch d.val) = some d.val ∧ isDigit (ch d.val) = true := by decide +kernel
  exact H ⟨d, h⟩
theorem dig_ch16 (d : Nat) (h : d < 16) : dig 16 (ch d) = some d := by
  have H : ∀ d : Fin 16, dig 16 (ch d.val) = some d.val := by decide +kernel
  exact H ⟨d, h⟩
theorem num_nil (B acc : Nat) : num B acc [] = some acc := rfl
theorem num_cons (B acc : Nat) (c : UInt8) (l : List UInt8) : num B acc (c :: l) = (dig B c).bind fun d => if acc * B + d < 9223372036854775808 then num B (acc * B + d) l else none := by
  have h : num B acc (c :: l) = match dig B c with
    | none => none
    | some d => if acc * B + d < 9223372036854775808 then num B (acc * B + d) l else none := rfl
  rw [h]
  cases dig B c <;> rfl
theorem num_append (B : Nat) (c : UInt8) : ∀ (l : List UInt8) (acc : Nat), num B acc (l ++ [c]) = (num B acc l).bind fun a => num B a [c]
  | [], acc => rfl
  | d :: l, acc => by
    rw [List.cons_append, num_cons, num_cons]
    cases dig B d with
    | none => rfl
    | some e =>
      simp only [Option.bind_some]
      split
      · exact num_append B c l _
      · rfl
theorem num_digs (B : Nat) (hB : B = 10 ∨ B = 16) : ∀ (f x : Nat), x < B ^ f → num B 0 (digs B f x) = if x < 9223372036854775808 then some x else none := by
  have hB2 : 2 ≤ B := by rcases hB with rfl | rfl <;> omega
  intro f
  induction f with
  | zero => intro x h; simp at h; subst h; simp [digs, num_nil]
  | succ f ih =>
    intro x h
    unfold digs
    by_cases h0 : x = 0
    · subst h0; simp [num_nil]
    rw [if_neg h0, num_append, ih (x / B) (by rw [Nat.pow_succ] at h; exact Nat.div_lt_of_lt_mul (by rw [Nat.mul_comm]; exact h))]
    have hd : dig B (ch (x % B)) = some (x % B) := by
      have hm : x % B < B := Nat.mod_lt _ (by omega)
      rcases hB with rfl | rfl
      · exact (dig_ch10 _ hm).1
      · exact dig_ch16 _ hm
    have hx : x / B * B + x % B = x := Nat.div_add_mod' x B
    have hle : x / B ≤ x := Nat.div_le_self _ _
    by_cases h1 : x / B < 9223372036854775808
    · rw [if_pos h1]
      rw [Option.bind_some, num_cons, hd, Option.bind_some, hx]
      rfl
    · rw [if_neg h1, if_neg (by omega)]
      rfl
theorem digs_len (B : Nat) : ∀ (f x : Nat), (digs B f x).length ≤ f
  | 0, _ => by simp [digs]
  | f + 1, x => by
    unfold digs
    split
    · simp
    · have := digs_len B f (x / B); simp; exact this
theorem digs_ne (B f x : Nat) (h : x ≠ 0) : digs B (f + 1) x ≠ [] := by
  unfold digs; rw [if_neg h]; simp
theorem digs_digit : ∀ (f x : Nat), ∀ c ∈ digs 10 f x, isDigit c = true
  | 0, _ => by simp [digs]
  | f + 1, x => by
    unfold digs
    split
    · simp
    · intro c hc
      rcases List.mem_append.1 hc with hc | hc
      · exact digs_digit f _ c hc
      · rw [List.mem_singleton.1 hc]; exact (dig_ch10 _ (Nat.mod_lt _ (by omega))).2
theorem digit_byte (c : UInt8) : isDigit c = true → c ≠ 39 ∧ c ≠ 120 := all_bytes (P := fun c => isDigit c = true → c ≠ 39 ∧ c ≠ 120) (by decide +kernel) c
theorem num_text (B : Nat) (hB : B = 10 ∨ B = 16) (f x : Nat) (h : x < B ^ f) : num B 0 (text B f x) = if x < 9223372036854775808 then some x else none := by
  unfold text
  by_cases h0 : x = 0
  · subst h0
    rcases hB with rfl | rfl <;> rfl
  · rw [if_neg h0]; exact num_digs B hB f x h
theorem text_digit (f x : Nat) : ∀ c ∈ text 10 f x, isDigit c = true := by
  unfold text
  split
  · intro c hc; rw [List.mem_singleton.1 hc]; rfl
  · exact digs_digit f x
theorem text_len (B f x : Nat) (h : 1 ≤ f) : (text B f x).length ≤ f := by
  unfold text
  split
  · simpa using h
  · exact digs_len B f x
theorem text_ne (B f x : Nat) : text B (f + 1) x ≠ [] := by
  unfold text
  split
  · simp
  · rename_i h; exact digs_ne B f x h
theorem mean_dec (x : Nat) (h : x < 18446744073709551616) : mean (text 10 20 x) = if x < 9223372036854775808 then some x else none := by
  have hn := num_text 10 (.inl rfl) 20 x (by omega)
  have hl := text_len 10 20 x (by omega)
  have hne := text_ne 10 19 x
  have hdg := text_digit 20 x
  obtain ⟨l, hlx⟩ : ∃ l, l = text 10 20 x := ⟨_, rfl⟩
  rw [← hlx] at hn hl hne hdg ⊢
  clear hlx
  cases l with
  | nil => exact absurd rfl hne
  | cons c t =>
    have hc := hdg c (by simp)
    have h39 := digit_byte c hc
    rw [mean_else (by unfold quoted; split <;> simp_all), meanNum_digits (by omega) hc, if_neg, hn]
    intro hp
    match t with
    | [] => simp [Lib.hasPrefix] at hp
    | d :: u =>
      have hd2 : d = 120 := by simp [Lib.hasPrefix] at hp; exact hp.2.symm
      exact (digit_byte d (hdg d (by simp))).2 hd2
theorem mean_hex (x : Nat) (h : x < 18446744073709551616) : mean (48 :: 120 :: text 16 16 x) = if x < 9223372036854775808 then some x else none := by
  have hn := num_text 16 (.inr rfl) 16 x (by omega)
  have hl := text_len 16 16 x (by omega)
  have hne := text_ne 16 15 x
  rw [mean_else (by unfold quoted; split <;> simp_all), meanNum_digits (by simp; omega) rfl, if_pos (by rfl)]
  simp only [List.drop_succ_cons, List.drop_zero]
  rw [if_neg hne, hn]
theorem u64w {x : Int} (h0 : 0 ≤ x) (h : x < 18446744073709551616) : IntKind.u64.wrap x = x := by rw [IntKind.wrap_u64]; omega
theorem tmod_nat (x B : Nat) : Int.tmod (x : Int) (B : Int) = ((x % B : Nat) : Int) := by rw [Int.tmod_eq_emod_of_nonneg (by omega)]; rfl
theorem tdiv_nat (x B : Nat) : Int.tdiv (x : Int) (B : Int) = ((x / B : Nat) : Int) := by rw [Int.tdiv_eq_ediv_of_nonneg (by omega)]; rfl
theorem ba_ext {a b : ByteArray} (h : a.data.toList = b.data.toList) : a = b := by
  obtain ⟨⟨a⟩⟩ := a; obtain ⟨⟨b⟩⟩ := b; simp at h; subst h; rfl
theorem dec_byte (d : Nat) (h : d < 10) : strOfNums [(IntKind.u64.wrap (48 + (d : Int))) % 256] = ⟨#[ch d]⟩ := by
  have H : ∀ d : Fin 10, strOfNums [(IntKind.u64.wrap (48 + ((d.val : Nat) : Int))) % 256] = ⟨#[ch d.val]⟩ := by decide +kernel
  exact H ⟨d, h⟩
theorem hex_byte (d : Nat) (h : d < 16) : (⟨#[48, 49, 50, 51, 52, 53, 54, 55, 56, 57, 97, 98, 99, 100, 101, 102]⟩ : ByteArray).extract d (d + 1) = ⟨#[ch d]⟩ := by
  have H : ∀ d : Fin 16, (⟨#[48, 49, 50, 51, 52, 53, 54, 55, 56, 57, 97, 98, 99, 100, 101, 102]⟩ : ByteArray).extract d.val (d.val + 1) = ⟨#[ch d.val]⟩ := by decide +kernel
  exact H ⟨d, h⟩
theorem cat_data (a b : ByteArray) : (a ++ b).data.toList = a.data.toList ++ b.data.toList := by
  rw [ByteArray.data_append, Array.toList_append]
def joined (l : List UInt8) (b : ByteArray) : ByteArray := ⟨(l ++ b.data.toList).toArray⟩
theorem dec_loop (n0 : Nat) (h0 : n0 < 18446744073709551616) (K : Nat) (x4 : ByteArray) :
    ∀ (f x : Nat) (acc : ByteArray) (n : Nat), x < 18446744073709551616 → x < 10 ^ f → acc.size + f ≤ 100 → (acc.data.toList ≠ [] ∨ x ≠ 0) → K + f + 1 ≤ n →
      (∀ m, K ≤ m → hauberklaw05_LexNumbers.l1 m (n0 : Int) (joined (digs 10 f x) acc) x4 (n0 : Int) = some true) →
      hauberklaw05_LexNumbers.l0 n (n0 : Int) acc x4 (x : Int) = some true := by
  intro f
  induction f with
  | zero =>
    intro x acc n hx hf hs hne hn hK
    obtain ⟨n, rfl⟩ : ∃ m, n = m + 1 := ⟨n - 1, by omega⟩
    simp at hf
    subst hf
    have hne : acc.data.toList ≠ [] := by rcases hne with h | h; exact h; exact absurd rfl h
    unfold hauberklaw05_LexNumbers.l0
    rw [if_neg (by omega), if_neg (by rw [Lib.toList_data]; exact hne)]
    have := hK n (by omega)
    rw [show joined (digs 10 0 0) acc = acc from ba_ext (by simp [joined, digs])] at this
    exact this
  | succ f ih =>
    intro x acc n hx hf hs hne hn hK
    obtain ⟨n, rfl⟩ : ∃ m, n = m + 1 := ⟨n - 1, by omega⟩
    by_cases hz : x = 0
    · subst hz
      have hne : acc.data.toList ≠ [] := by rcases hne with h | h; exact h; exact absurd rfl h
      unfold hauberklaw05_LexNumbers.l0
      rw [if_neg (by omega), if_neg (by rw [Lib.toList_data]; exact hne)]
      have := hK n (by omega)
      rw [show joined (digs 10 (f + 1) 0) acc = acc from ba_ext (by simp [joined, digs])] at this
      exact this
    · unfold hauberklaw05_LexNumbers.l0
      rw [if_pos (by omega)]
      simp only [Option.bind_some]
      have hm : x % 10 < 10 := Nat.mod_lt _ (by omega)
      rw [show Int.tmod (x : Int) 10 = ((x % 10 : Nat) : Int) from tmod_nat x 10, dec_byte _ hm, if_pos (by rw [show (⟨#[ch (x % 10)]⟩ : ByteArray).size = 1 from rfl]; omega), show Int.tdiv (x : Int) 10 = ((x / 10 : Nat) : Int) from tdiv_nat x 10, u64w (by omega) (by omega)]
      have hnz : ((⟨#[ch (x % 10)]⟩ : ByteArray) ++ acc).data.toList ≠ [] := by rw [cat_data]; simp
      refine ih (x / 10) _ n (by omega) (by rw [Nat.pow_succ] at hf; omega) ?_ (.inl hnz) (by omega) ?_
      · rw [ByteArray.size_append, show (⟨#[ch (x % 10)]⟩ : ByteArray).size = 1 from rfl]; omega
      · intro m hm2
        have := hK m hm2
        rw [show joined (digs 10 f (x / 10)) ((⟨#[ch (x % 10)]⟩ : ByteArray) ++ acc) = joined (digs 10 (f + 1) x) acc from ba_ext (by simp [joined, digs, hz])]
        exact this
theorem hex_step (x : Nat) (acc : ByteArray) (hx : x < 18446744073709551616) :
    0 ≤ Int.tmod (x : Int) 16 ∧ Int.tmod (x : Int) 16 ≤ IntKind.u64.wrap (Int.tmod (x : Int) 16 + 1) ∧ IntKind.u64.wrap (Int.tmod (x : Int) 16 + 1) ≤ 16 ∧
      (⟨#[48, 49, 50, 51, 52, 53, 54, 55, 56, 57, 97, 98, 99, 100, 101, 102]⟩ : ByteArray).extract (Int.tmod (x : Int) 16).toNat (IntKind.u64.wrap (Int.tmod (x : Int) 16 + 1)).toNat = ⟨#[ch (x % 16)]⟩ ∧ IntKind.u64.wrap (Int.tdiv (x : Int) 16) = ((x / 16 : Nat) : Int) := by
  have hm : x % 16 < 16 := Nat.mod_lt _ (by omega)
  rw [show Int.tmod (x : Int) 16 = ((x % 16 : Nat) : Int) from tmod_nat x 16, show Int.tdiv (x : Int) 16 = ((x / 16 : Nat) : Int) from tdiv_nat x 16, u64w (by omega) (by omega), u64w (by omega) (by omega)]
  refine ⟨by omega, by omega, by omega, ?_, rfl⟩
  rw [Int.toNat_natCast, show (((x % 16 : Nat) : Int) + 1).toNat = x % 16 + 1 by omega]
  exact hex_byte _ hm
theorem hex_loop (n0 : Nat) (h0 : n0 < 18446744073709551616) (K : Nat) (x3 : ByteArray) :
    ∀ (f x : Nat) (acc : ByteArray) (n : Nat), x < 18446744073709551616 → x < 16 ^ f → acc.size + f ≤ 100 → (acc.data.toList ≠ [] ∨ x ≠ 0) → K + f + 1 ≤ n →
      (∀ m, K ≤ m → ∀ out : ByteArray, out.data.toList = digs 16 f x ++ acc.data.toList → hauberklaw05_LexNumbers.l1 (m + 1) (n0 : Int) x3 out 0 = some true) →
      hauberklaw05_LexNumbers.l1 n (n0 : Int) x3 acc (x : Int) = some true := by
  intro f
  induction f with
  | zero =>
    intro x acc n hx hf hs hne hn hK
    obtain ⟨n, rfl⟩ : ∃ m, n = m + 1 := ⟨n - 1, by omega⟩
    simp at hf
    subst hf
    exact hK n (by omega) acc (by simp [digs])
  | succ f ih =>
    intro x acc n hx hf hs hne hn hK
    obtain ⟨n, rfl⟩ : ∃ m, n = m + 1 := ⟨n - 1, by omega⟩
    by_cases hz : x = 0
    · subst hz
      exact hK n (by omega) acc (by simp [digs])
    · unfold hauberklaw05_LexNumbers.l1
      obtain ⟨q1, q2, q3, q4, q5⟩ := hex_step x acc hx
      rw [if_pos (by omega), if_pos q1, if_pos q2, if_pos q3, q4, q5, if_pos (by rw [show (⟨#[ch (x % 16)]⟩ : ByteArray).size = 1 from rfl]; omega)]
      have hnz : ((⟨#[ch (x % 16)]⟩ : ByteArray) ++ acc).data.toList ≠ [] := by rw [cat_data]; simp
      refine ih (x / 16) _ n (by omega) (by rw [Nat.pow_succ] at hf; omega) ?_ (.inl hnz) (by omega) ?_
      · rw [ByteArray.size_append, show (⟨#[ch (x % 16)]⟩ : ByteArray).size = 1 from rfl]; omega
      · intro m hm2 out ho
        exact hK m hm2 out (by rw [ho, cat_data]; simp [digs, hz])
theorem numbers_end (n0 : Nat) (h0 : n0 < 18446744073709551616) (m : Nat) (hm : 3 ≤ m) (dec hex : ByteArray) (hd : dec.data.toList = text 10 20 n0) (hh : hex.data.toList = text 16 16 n0) :
    hauberklaw05_LexNumbers.l1 (m + 1) (n0 : Int) dec hex 0 = some true := by
  have hdl := text_len 10 20 n0 (by omega)
  have hhl := text_len 16 16 n0 (by omega)
  have hds : dec.size ≤ 20 := by rw [← size_len, hd]; exact hdl
  have hhs : hex.size ≤ 16 := by rw [← size_len, hh]; exact hhl
  unfold hauberklaw05_LexNumbers.l1
  rw [if_neg (by omega), if_neg (by rw [Lib.toList_data, hh]; exact text_ne 16 15 n0), lmean_plain dec m (by omega) (by omega)]
  simp only [Option.bind_some]
  rw [if_pos (by omega), lmean_plain _ m (by omega) (by rw [ByteArray.size_append, show (⟨#[48, 120]⟩ : ByteArray).size = 2 from rfl]; omega)]
  simp only [Option.bind_some]
  rw [cat_data, hd, hh, show (⟨#[48, 120]⟩ : ByteArray).data.toList ++ text 16 16 n0 = 48 :: 120 :: text 16 16 n0 from rfl, mean_dec n0 h0, mean_hex n0 h0]
  by_cases hb : n0 < 9223372036854775808
  · rw [if_pos hb, if_neg (by omega)]
    simp [meanRes]
  · rw [if_neg hb, if_pos (by omega)]
    simp [meanRes]
theorem zero_dec (n : Nat) (n0 : Int) (x4 : ByteArray) : hauberklaw05_LexNumbers.l0 (n + 1) n0 ⟨#[]⟩ x4 0 = hauberklaw05_LexNumbers.l0 n n0 ⟨#[48]⟩ x4 0 := by
  conv => lhs; unfold hauberklaw05_LexNumbers.l0
  rw [if_neg (by omega), if_pos (by rw [Lib.toList_data])]
  simp only [Option.bind_some]
  rw [if_pos (by decide +kernel)]
  congr 1
theorem zero_hex (n : Nat) (n0 : Int) (x3 : ByteArray) : hauberklaw05_LexNumbers.l1 (n + 1) n0 x3 ⟨#[]⟩ 0 = hauberklaw05_LexNumbers.l1 n n0 x3 ⟨#[48]⟩ 0 := by
  conv => lhs; unfold hauberklaw05_LexNumbers.l1
  rw [if_neg (by omega), if_pos (by rw [Lib.toList_data]), if_pos (by decide), if_pos (by decide), if_pos (by decide), if_pos (by decide +kernel)]
  congr 1
theorem LexNumbers : hauberklaw05_LexNumbers.Pure := by
  intro a0 hw
  obtain ⟨n, hn⟩ : ∃ n : Nat, 20000 ≤ n := ⟨20000, Nat.le_refl _⟩
  refine ⟨n + 1, ?_⟩
  have hb : 0 ≤ a0 ∧ a0 < 18446744073709551616 := by
    have hmin : IntKind.u64.min = 0 := by decide +kernel
    have hmax : IntKind.u64.max = 18446744073709551615 := by decide +kernel
    simp only [Lit.wf, Bool.and_eq_true, decide_eq_true_eq, hmin, hmax] at hw
    omega
  obtain ⟨x, rfl⟩ : ∃ x : Nat, a0 = x := ⟨a0.toNat, by omega⟩
  have hx : x < 18446744073709551616 := by omega
  unfold hauberklaw05_LexNumbers.f
  rw [awake_plain _ (by omega)]
  simp only [Option.bind_some, if_true]
  have hexd : ∀ m, 100 ≤ m → ∀ dec : ByteArray, dec.data.toList = text 10 20 x → hauberklaw05_LexNumbers.l1 m (x : Int) dec ⟨#[]⟩ (x : Int) = some true := by
    intro m hm dec hd
    by_cases hz : x = 0
    · subst hz
      obtain ⟨m, rfl⟩ : ∃ m', m = m' + 2 := ⟨m - 2, by omega⟩
      show hauberklaw05_LexNumbers.l1 (m + 1 + 1) _ _ _ 0 = _
      rw [zero_hex]
      exact numbers_end 0 (by omega) m (by omega) dec ⟨#[48]⟩ hd rfl
    · refine hex_loop x hx 3 dec 16 x ⟨#[]⟩ m hx (by omega) (by decide) (.inr hz) (by omega) ?_
      intro k hk out ho
      exact numbers_end x hx k hk dec out hd (by rw [ho]; unfold text; rw [if_neg hz]; simp)
  by_cases hz : x = 0
  · subst hz
    rw [show ((0 : Nat) : Int) = 0 from rfl] at *
    rw [zero_dec]
    exact dec_loop 0 (by omega) 100 ⟨#[]⟩ 0 0 ⟨#[48]⟩ n (by omega) (by omega) (by decide) (.inl (by simp)) (by omega) (fun m hm => hexd m hm _ (by simp [joined, digs, text]))
  · exact dec_loop x hx 100 ⟨#[]⟩ 20 x ⟨#[]⟩ (n + 1) hx (by omega) (by decide) (.inr hz) (by omega) (fun m hm => hexd m hm _ (by simp [joined, text, hz]))
end Go.Proofs.YtjegaejdphmdgaaDoor.Print
