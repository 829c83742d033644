/-
  lex.Lex and hauberkref05.Lex, plain: both are 'lexR'; what the words 'gap' and 'token' bound.
-/
import Derived.Test.YtjegaejdphmdgaaDoorPrB2
import Derived.Test.YtjegaejdphmdgaaDoorRt2
namespace Go.Proofs.YtjegaejdphmdgaaDoor.Print
open Go.RowKit Go.Lib Go.Proofs.YtjegaejdphmdgaaDoorW.PrintWords Go.Proofs.YtjegaejdphmdgaaDoor.LexP
set_option linter.unusedVariables false

theorem indexByte_ge0 (l : List UInt8) (c : UInt8) : -1 ≤ Lib.indexByte l c := Lib.indexByte_ge l c
theorem index_le {p : List UInt8} : ∀ (l : List UInt8), 0 ≤ Lib.index l p → Lib.index l p + p.length ≤ l.length
  | [], h => by
    unfold Lib.index at h ⊢
    cases p with
    | nil => simp
    | cons a t => simp at h
  | c :: l, h => by
    rw [index_cons] at h ⊢
    by_cases hp : p.isPrefixOf (c :: l) = true
    · rw [if_pos hp]
      have := prefix_len (l := c :: l) (p := p) hp
      omega
    · rw [if_neg hp] at h ⊢
      by_cases h1 : (Lib.index l p == -1) = true
      · rw [if_pos h1] at h; exact absurd h (by decide)
      · rw [if_neg h1] at h ⊢
        have hge := Lib.index_ge l p
        have hne : Lib.index l p ≠ -1 := fun e => h1 (by rw [e]; rfl)
        have := index_le (p := p) l (by omega)
        simp only [List.length_cons]
        omega
theorem gap_le : ∀ (n : Nat) (l : List UInt8), l.length ≤ n → (gap l).1 ≤ l.length := by
  intro n
  induction n with
  | zero =>
    intro l hl
    have : l = [] := List.eq_nil_of_length_eq_zero (by omega)
    subst this
    exact Nat.le_refl _
  | succ n ih =>
    intro l hl
    match l with
    | [] => exact Nat.le_refl _
    | c :: t =>
      simp only [List.length_cons] at hl ⊢
      by_cases h1 : isBlank c = true
      · rw [gap_blank h1]; have := ih t (by omega); simp only []; omega
      by_cases h2 : Lib.hasPrefix (c :: t) [47, 47] = true
      · by_cases h3 : Lib.indexByte (c :: t) 10 < 0
        · rw [gap_last h1 h2 h3]; simp
        · have h3' : 0 ≤ Lib.indexByte (c :: t) 10 := by omega
          rw [gap_line h1 h2 h3']
          have hp := indexByte_pos (c := c) (d := 10) (t := t) (by have := prefix_head h2; subst this; decide) h3'
          have hlt := indexByte_lt h3'
          have := ih ((c :: t).drop (Lib.indexByte (c :: t) 10).toNat) (by simp; omega)
          simp only [List.length_drop, List.length_cons] at this hlt
          simp only []
          omega
      by_cases h3 : Lib.hasPrefix (c :: t) [47, 42] = true
      · by_cases h4 : Lib.index ((c :: t).drop 2) [42, 47] < 0
        · rw [gap_open h1 h2 h3 h4]; simp
        · have h4' : 0 ≤ Lib.index ((c :: t).drop 2) [42, 47] := by omega
          rw [gap_remark h1 h2 h3 h4']
          have hle := index_le _ h4'
          have hp2 := prefix_len h3
          have := ih ((c :: t).drop ((Lib.index ((c :: t).drop 2) [42, 47]).toNat + 4)) (by simp; omega)
          simp only [List.length_drop, List.length_cons, List.length_nil] at this hle hp2
          simp only []
          omega
      rw [gap_stop h1 h2 h3]; simp
theorem mean_quote_len {l : List UInt8} (h : (mean (39 :: l)).isSome = true) : l.length = 2 := by
  match l with
  | [] => exact absurd h (by decide)
  | [d] => revert h; exact all_bytes (P := fun d => (mean [39, d]).isSome = true → [d].length = 2) (by decide +kernel) d
  | [d, e] => rfl
  | d :: e :: f :: t =>
    have : mean (39 :: d :: e :: f :: t) = meanNum (39 :: d :: e :: f :: t) := mean_else (by unfold quoted; split <;> simp_all)
    rw [this, meanNum_first (by decide)] at h
    cases h
theorem token_facts (l : List UInt8) : (token l = (0, 0)) ∨ (1 ≤ (token l).1 ∧ (token l).1 ≤ 4 ∧ 1 ≤ (token l).2 ∧ (token l).2 ≤ l.length) := by
  match l with
  | [] => exact .inl rfl
  | c :: t =>
    rw [token_cons]
    have hs := span_le (c :: t)
    have hs1 : isWordB c = true → 1 ≤ span (c :: t) := fun h => by rw [span_yes h]; omega
    by_cases h1 : isLetter c = true
    · rw [if_pos h1]
      have h1s := hs1 (by unfold isWordB; rw [h1]; rfl)
      by_cases h2 : (c :: t).takeWhile isWordB ∈ words
      · rw [if_pos h2]; exact .inr ⟨by simp, by simp, h1s, hs⟩
      rw [if_neg h2]
      by_cases h3 : 32 < span (c :: t)
      · rw [if_pos h3]; exact .inl rfl
      rw [if_neg h3]; exact .inr ⟨by simp, by simp, h1s, hs⟩
    rw [if_neg h1]
    by_cases h2 : isDigit c = true
    · rw [if_pos h2]
      have h1s := hs1 (by unfold isWordB; rw [h2]; simp)
      by_cases h3 : (mean ((c :: t).takeWhile isWordB)).isSome = true
      · rw [if_pos h3]; exact .inr ⟨by simp, by simp, h1s, hs⟩
      rw [if_neg h3]; exact .inl rfl
    rw [if_neg h2]
    by_cases h3 : c = 39
    · rw [if_pos h3]
      by_cases h4 : (mean ((c :: t).take 3)).isSome = true
      · rw [if_pos h4]
        have := mean_quote_len (l := t.take 2) (by rw [h3] at h4; exact h4)
        simp only [List.length_take] at this
        exact .inr ⟨by simp, by simp, by simp, by simp; omega⟩
      rw [if_neg h4]; exact .inl rfl
    rw [if_neg h3]
    by_cases h4 : headTwo (c :: t) = true
    · rw [if_pos h4]
      cases t with
      | nil => simp [headTwo] at h4
      | cons d t => exact .inr ⟨by simp, by simp, by simp, by simp⟩
    rw [if_neg h4]
    by_cases h5 : c ∈ ones
    · rw [if_pos h5]; exact .inr ⟨by simp, by simp, by simp, by simp⟩
    rw [if_neg h5]; exact .inl rfl

/-- What both lexers do, from the place behind a token on. -/
def lexL (s : ByteArray) : Nat → List S31 → Nat → List S31 × Int × Int
  | 0, _, _ => ([], 0, 10)
  | n + 1, acc, k =>
    if (gap (s.data.toList.drop k)).2 = true then
      if k + (gap (s.data.toList.drop k)).1 = s.size then (acc ++ [⟨0, ⟨#[]⟩, ((k + (gap (s.data.toList.drop k)).1 : Nat) : Int)⟩], 0, 0)
      else if (token (s.data.toList.drop (k + (gap (s.data.toList.drop k)).1))).1 = 0 then ([], ((k + (gap (s.data.toList.drop k)).1 : Nat) : Int), 10)
      else if acc.length = 2500 then ([], ((k + (gap (s.data.toList.drop k)).1 : Nat) : Int), 3)
      else lexL s n (acc ++ [⟨((token (s.data.toList.drop (k + (gap (s.data.toList.drop k)).1))).1 : Int), s.extract (k + (gap (s.data.toList.drop k)).1) (k + (gap (s.data.toList.drop k)).1 + (token (s.data.toList.drop (k + (gap (s.data.toList.drop k)).1))).2), ((k + (gap (s.data.toList.drop k)).1 : Nat) : Int)⟩]) (k + (gap (s.data.toList.drop k)).1 + (token (s.data.toList.drop (k + (gap (s.data.toList.drop k)).1))).2)
    else ([], ((k + (gap (s.data.toList.drop k)).1 : Nat) : Int), 10)
/-- What both tell of a text. -/
def lexR (s : ByteArray) : List S31 × Int × Int := if 8192 < s.size then ([], 8192, 3) else lexL s (s.size + 1) [] 0

theorem gap_drop (s : ByteArray) (k : Nat) (hk : k ≤ s.size) : k + (gap (s.data.toList.drop k)).1 ≤ s.size := by
  have := gap_le _ (s.data.toList.drop k) (Nat.le_refl _)
  rw [List.length_drop, size_len] at this
  omega
theorem lex_from (s : ByteArray) (hs : s.size ≤ 8192) : ∀ (n m : Nat) (acc : List S31) (k : Nat), k ≤ s.size → s.size - k < n → s.size - k < m → acc.length ≤ 2500 →
    lex_Lex.l0 n s acc ((k : Int) + ((gap (s.data.toList.drop k)).1 : Int)) (gap (s.data.toList.drop k)).2 = some (lexL s m acc k) := by
  intro n
  induction n with
  | zero => intro m acc k hk h; omega
  | succ n ih =>
    intro m acc k hk h1 h2 hacc
    obtain ⟨m, rfl⟩ : ∃ m', m = m' + 1 := ⟨m - 1, by omega⟩
    have hg := gap_drop s k hk
    unfold lex_Lex.l0 lexL
    obtain ⟨g, hgd⟩ : ∃ g, g = gap (s.data.toList.drop k) := ⟨_, rfl⟩
    rw [← hgd] at hg ⊢
    obtain ⟨g1, g2⟩ := g
    clear hgd
    simp only [] at hg ⊢
    cases g2 with
    | false => rw [if_neg (by decide), if_neg (by decide)]; push_cast; rfl
    | true =>
      rw [if_pos rfl, if_pos rfl]
      obtain ⟨a, ha⟩ : ∃ a : Nat, a = k + g1 := ⟨_, rfl⟩
      rw [← ha] at hg ⊢
      rw [show (k : Int) + (g1 : Int) = (a : Int) by omega]
      by_cases hend : a = s.size
      · rw [if_pos (by omega), if_pos hend, if_pos (by omega)]
      rw [if_neg (by omega), if_neg hend, if_pos (by omega), if_pos (by omega)]
      have htok : lex_token.f (s.extract (a : Int).toNat s.size) = some (((token (s.data.toList.drop a)).1 : Int), ((token (s.data.toList.drop a)).2 : Int)) := by
        unfold lex_token.f
        rw [Int.toNat_natCast, if_pos (by simp; omega), cut_data]
      rw [htok]
      simp only [Option.bind_some]
      have hf := token_facts (s.data.toList.drop a)
      rw [List.length_drop, size_len] at hf
      obtain ⟨t, ht⟩ : ∃ t, t = token (s.data.toList.drop a) := ⟨_, rfl⟩
      rw [← ht] at hf ⊢
      obtain ⟨t1, t2⟩ := t
      simp only [] at hf ⊢
      rcases hf with hf | ⟨hf1, hf4, hf2, hf3⟩
      · injection hf with e1 e2
        subst e1 e2
        rw [if_pos (show ((0 : Nat) : Int) = 0 from rfl), if_pos rfl]
      rw [if_neg (show ¬ (t2 : Int) = 0 by omega), if_neg (show ¬ t1 = 0 by omega)]
      by_cases hfull : acc.length = 2500
      · rw [if_pos (show (acc.length : Int) = 2500 by omega), if_pos hfull]
      rw [if_neg (show ¬ (acc.length : Int) = 2500 by omega), if_neg hfull, wrap_small (by omega) (by omega), if_pos (by omega), if_pos (by omega), if_pos (by omega)]
      have hgf : lex_gap.f s ((a : Int) + (t2 : Int)) = some (((a + t2 : Nat) : Int) + ((gap (s.data.toList.drop (a + t2))).1 : Int), (gap (s.data.toList.drop (a + t2))).2) := by
        unfold lex_gap.f
        rw [show (a : Int) + (t2 : Int) = ((a + t2 : Nat) : Int) by omega, Int.toNat_natCast, if_pos (by omega)]
      rw [hgf]
      simp only [Option.bind_some]
      rw [ih m _ (a + t2) (by omega) (by omega) (by omega) (by simp; omega)]
      rw [show (a : Int) + (t2 : Int) = ((a + t2 : Nat) : Int) by omega, Int.toNat_natCast, Int.toNat_natCast]
theorem lex_plain (s : ByteArray) (n : Nat) (hn : 8194 ≤ n) : lex_Lex.f n s = some (lexR s) := by
  unfold lex_Lex.f lexR
  by_cases h : 8192 < s.size
  · rw [if_pos (by omega), if_pos h]
  rw [if_neg (by omega), if_neg h]
  have hgf : lex_gap.f s 0 = some (((0 : Nat) : Int) + ((gap (s.data.toList.drop 0)).1 : Int), (gap (s.data.toList.drop 0)).2) := by
    unfold lex_gap.f
    rw [if_pos (by omega)]; rfl
  rw [hgf]
  simp only [Option.bind_some]
  exact lex_from s (by omega) n (s.size + 1) [] 0 (by omega) (by omega) (by omega) (by simp)
theorem ref_from (s : ByteArray) (hs : s.size ≤ 8192) : ∀ (n m : Nat) (acc : List S31) (k : Nat), k ≤ s.size → s.size - k < n → s.size - k < m → acc.length ≤ 2500 →
    hauberkref05_Lex.l0 n s acc (k : Int) = some (lexL s m acc k) := by
  intro n
  induction n with
  | zero => intro m acc k hk h; omega
  | succ n ih =>
    intro m acc k hk h1 h2 hacc
    obtain ⟨m, rfl⟩ : ∃ m', m = m' + 1 := ⟨m - 1, by omega⟩
    have hg := gap_drop s k hk
    unfold hauberkref05_Lex.l0 lexL
    have hgf : hauberkref05_gap.f s (k : Int) = some ((k : Int) + ((gap (s.data.toList.drop k)).1 : Int), (gap (s.data.toList.drop k)).2) := by
      unfold hauberkref05_gap.f lex_gap.f
      rw [Int.toNat_natCast, if_pos (by omega)]
    rw [hgf]
    simp only [Option.bind_some]
    obtain ⟨g, hgd⟩ : ∃ g, g = gap (s.data.toList.drop k) := ⟨_, rfl⟩
    rw [← hgd] at hg ⊢
    obtain ⟨g1, g2⟩ := g
    clear hgd hgf
    simp only [] at hg ⊢
    cases g2 with
    | false => rw [if_neg (by decide), if_neg (by decide)]; push_cast; rfl
    | true =>
      rw [if_pos rfl, if_pos rfl]
      obtain ⟨a, ha⟩ : ∃ a : Nat, a = k + g1 := ⟨_, rfl⟩
      rw [← ha] at hg ⊢
      rw [show (k : Int) + (g1 : Int) = (a : Int) by omega]
      by_cases hend : a = s.size
      · rw [if_pos (by omega), if_pos hend, if_pos (by omega)]
      rw [if_neg (by omega), if_neg hend]
      have htok : hauberkref05_token.f s (a : Int) = some (if (token (s.data.toList.drop a)).1 = 0 then (0, 0) else (((token (s.data.toList.drop a)).1 : Int), (a : Int) + ((token (s.data.toList.drop a)).2 : Int))) := by
        unfold hauberkref05_token.f
        rw [Int.toNat_natCast, if_pos (by omega)]
      rw [htok]
      simp only [Option.bind_some]
      have hf := token_facts (s.data.toList.drop a)
      rw [List.length_drop, size_len] at hf
      obtain ⟨t, ht⟩ : ∃ t, t = token (s.data.toList.drop a) := ⟨_, rfl⟩
      rw [← ht] at hf ⊢
      obtain ⟨t1, t2⟩ := t
      simp only [] at hf ⊢
      rcases hf with hf | ⟨hf1, hf4, hf2, hf3⟩
      · injection hf with e1 e2
        subst e1 e2
        rw [if_pos rfl, if_pos rfl]
        rfl
      rw [if_neg (show ¬ t1 = 0 by omega), if_neg (show ¬ t1 = 0 by omega)]
      simp only []
      rw [if_neg (show ¬ (a : Int) + (t2 : Int) = 0 by omega)]
      by_cases hfull : acc.length = 2500
      · rw [if_pos (show (acc.length : Int) ≥ 2500 by omega), if_pos hfull]
      rw [if_neg (show ¬ (acc.length : Int) ≥ 2500 by omega), if_neg hfull, if_pos (by omega), if_pos (by omega), if_pos (by omega), if_pos (by omega)]
      rw [show (a : Int) + (t2 : Int) = ((a + t2 : Nat) : Int) by omega, Int.toNat_natCast, Int.toNat_natCast]
      exact ih m _ (a + t2) (by omega) (by omega) (by omega) (by simp; omega)
theorem ref_plain (s : ByteArray) (n : Nat) (hn : 8194 ≤ n) : hauberkref05_Lex.f n s = some (lexR s) := by
  unfold hauberkref05_Lex.f lexR
  by_cases h : 8192 < s.size
  · rw [if_pos (by omega), if_pos h]
  rw [if_neg (by omega), if_neg h]
  exact ref_from s (by omega) n (s.size + 1) [] 0 (by omega) (by omega) (by omega) (by simp)
theorem same_self (l : List S31) (hl : l.length ≤ 1000000) : ∀ (n j : Nat), j ≤ l.length → l.length - j < n → hauberklaw05_same.l0 n l l (l.length : Int) (j : Int) = some true := by
  intro n
  induction n with
  | zero => intro j hj h; omega
  | succ n ih =>
    intro j hj h
    unfold hauberklaw05_same.l0
    by_cases hlt : j < l.length
    · rw [if_pos (by omega), if_pos (by omega), if_pos (by omega), if_pos (by omega), if_neg (by simp), wrap_small (by omega) (by omega)]
      exact ih (j + 1) (by omega) (by omega)
    · rw [if_neg (by omega)]
theorem same_plain (l : List S31) (hl : l.length ≤ 8192) (n : Nat) (hn : 8194 ≤ n) : hauberklaw05_same.f n l l = some true := by
  unfold hauberklaw05_same.f
  rw [if_pos rfl]
  exact same_self l (by omega) n 0 (by omega) (by omega)
theorem lexL_len (s : ByteArray) : ∀ (n : Nat) (acc : List S31) (k : Nat), acc.length ≤ 2500 → (lexL s n acc k).1.length ≤ 2501 := by
  intro n
  induction n with
  | zero => intro acc k h; simp [lexL]
  | succ n ih =>
    intro acc k h
    unfold lexL
    split
    · split
      · simp; omega
      · split
        · simp
        · split
          · simp
          · rename_i hne
            exact ih _ _ (by simp; omega)
    · simp
theorem lexR_len (s : ByteArray) : (lexR s).1.length ≤ 2501 := by
  unfold lexR
  split
  · simp
  · exact lexL_len s _ _ _ (by simp)
end Go.Proofs.YtjegaejdphmdgaaDoor.Print
