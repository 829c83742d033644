/-
  The lexer's plain theory: a token depends on its own bytes alone where a blank follows; a gap runs on through a blank; the tokens of two texts joined.
-/
import Derived.Test.YtjegaejdphmdgaaDoorPu0
namespace Go.Proofs.YtjegaejdphmdgaaDoor.Print
open Go.RowKit Go.Lib Go.Proofs.YtjegaejdphmdgaaDoorW.PrintWords Go.Proofs.YtjegaejdphmdgaaDoor.LexP
set_option linter.unusedVariables false

theorem blank_not (b : UInt8) : isBlank b = true → isWordB b = false ∧ isLetter b = false ∧ isDigit b = false ∧ b ≠ 39 ∧ b ∉ ones ∧ b ≠ 47 ∧ b ≠ 42 := by
  have H := all_bytes (P := fun b => isBlank b = true → isWordB b = false ∧ isLetter b = false ∧ isDigit b = false ∧ b ≠ 39 ∧ b ∉ ones ∧ b ≠ 47 ∧ b ≠ 42) (by decide +kernel) b
  exact H
theorem twos_snd : ∀ p ∈ twos, isBlank p.2 = false ∧ isBlank p.1 = false := by decide +kernel
theorem blank_two (c b : UInt8) (h : isBlank b = true) : (c, b) ∉ twos ∧ (b, c) ∉ twos := by
  constructor
  · intro hm
    have h2 : isBlank b = false := (twos_snd _ hm).1
    rw [h] at h2
    cases h2
  · intro hm
    have h2 : isBlank b = false := (twos_snd _ hm).2
    rw [h] at h2
    cases h2
theorem takeWhile_app (l : List UInt8) (b : UInt8) (rest : List UInt8) (hb : isWordB b = false) : (l ++ b :: rest).takeWhile isWordB = l.takeWhile isWordB := by
  induction l with
  | nil => simp [hb]
  | cons c t ih =>
    rw [List.cons_append, List.takeWhile_cons, List.takeWhile_cons, ih]
theorem span_app (l : List UInt8) (b : UInt8) (rest : List UInt8) (hb : isWordB b = false) : span (l ++ b :: rest) = span l := by
  unfold span; rw [takeWhile_app l b rest hb]
/-- A token that stands at the head is there still where a blank is put behind the text. -/
theorem tok_app (r : List UInt8) (b : UInt8) (rest : List UInt8) (hb : isBlank b = true) (h : (token r).1 ≠ 0) : token (r ++ b :: rest) = token r := by
  obtain ⟨hw, hl, hd, h39, ho, _, _⟩ := blank_not b hb
  match r with
  | [] => exact absurd rfl h
  | c :: t =>
    have htw := takeWhile_app (c :: t) b rest hw
    have hsp := span_app (c :: t) b rest hw
    rw [List.cons_append] at htw hsp ⊢
    revert h
    rw [token_cons, token_cons, htw, hsp]
    by_cases h1 : isLetter c = true
    · rw [if_pos h1, if_pos h1]; intro _; rfl
    rw [if_neg h1, if_neg h1]
    by_cases h2 : isDigit c = true
    · rw [if_pos h2, if_pos h2]; intro _; rfl
    rw [if_neg h2, if_neg h2]
    by_cases h3 : c = 39
    · rw [if_pos h3, if_pos h3]
      by_cases h4 : (mean ((c :: t).take 3)).isSome = true
      · intro _
        have := mean_quote_len (l := t.take 2) (by rw [h3] at h4; exact h4)
        simp only [List.length_take] at this
        rw [show (c :: (t ++ b :: rest)).take 3 = (c :: t).take 3 by rw [← List.cons_append, List.take_append_of_le_length (by simp; omega)]]
      · rw [if_neg h4]; intro h; exact absurd rfl h
    rw [if_neg h3, if_neg h3]
    have h2e : headTwo (c :: (t ++ b :: rest)) = headTwo (c :: t) := by
      cases t with
      | nil =>
        show decide ((c, b) ∈ twos) = false
        exact decide_eq_false (blank_two c b hb).1
      | cons d t => rfl
    rw [h2e]
    intro _; rfl
/-- A token's own text begins with it. -/
theorem tok_self (r : List UInt8) (h : (token r).1 ≠ 0) : token (r.take (token r).2) = token r := by
  match r with
  | [] => exact absurd rfl h
  | c :: t =>
    revert h
    have hs1 : isWordB c = true → 1 ≤ span (c :: t) := fun h => by rw [span_yes h]; omega
    have hall : ((c :: t).takeWhile isWordB).takeWhile isWordB = (c :: t).takeWhile isWordB := by
      generalize c :: t = l
      induction l with
      | nil => rfl
      | cons x u ih =>
        rw [List.takeWhile_cons]
        by_cases hx : isWordB x = true
        · rw [if_pos hx, List.takeWhile_cons, if_pos hx, ih]
        · rw [if_neg hx]; rfl
    have hwc : isWordB c = true → (c :: t).takeWhile isWordB = c :: t.takeWhile isWordB := fun h => by rw [List.takeWhile_cons, if_pos h]
    have hspan : isWordB c = true → span (c :: t.takeWhile isWordB) = span (c :: t) := fun h => by
      unfold span; rw [← hwc h, hall]
    rw [token_cons]
    by_cases h1 : isLetter c = true
    · have hw : isWordB c = true := by unfold isWordB; rw [h1]; rfl
      rw [if_pos h1]
      by_cases h2 : (c :: t).takeWhile isWordB ∈ words
      · rw [if_pos h2]; intro _; simp only []
        rw [take_span, hwc hw, token_cons, if_pos h1, ← hwc hw, hall, if_pos h2]
        rw [hwc hw, hspan hw]
      rw [if_neg h2]
      by_cases h3 : 32 < span (c :: t)
      · rw [if_pos h3]; intro h; exact absurd rfl h
      · rw [if_neg h3]; intro _; simp only []
        rw [take_span, hwc hw, token_cons, if_pos h1, ← hwc hw, hall, if_neg h2]
        rw [hwc hw, hspan hw, if_neg h3]
    rw [if_neg h1]
    by_cases h2 : isDigit c = true
    · have hw : isWordB c = true := by unfold isWordB; rw [h2]; simp
      rw [if_pos h2]
      by_cases h3 : (mean ((c :: t).takeWhile isWordB)).isSome = true
      · rw [if_pos h3]; intro _; simp only []
        rw [take_span, hwc hw, token_cons, if_neg h1, if_pos h2, ← hwc hw, hall, if_pos h3]
        rw [hwc hw, hspan hw]
      · rw [if_neg h3]; intro h; exact absurd rfl h
    rw [if_neg h2]
    by_cases h3 : c = 39
    · rw [if_pos h3]
      by_cases h4 : (mean ((c :: t).take 3)).isSome = true
      · rw [if_pos h4]; intro _; simp only []
        rw [take_cons (by omega), token_cons, if_neg h1, if_neg h2, if_pos h3]
        rw [show (c :: t.take (3 - 1)).take 3 = (c :: t).take 3 by rw [← take_cons (by omega), List.take_take]; rfl, if_pos h4]
      · rw [if_neg h4]; intro h; exact absurd rfl h
    rw [if_neg h3]
    by_cases h4 : headTwo (c :: t) = true
    · rw [if_pos h4]; intro _; simp only []
      cases t with
      | nil => simp [headTwo] at h4
      | cons d t =>
        rw [show (c :: d :: t).take 2 = [c, d] from rfl, token_cons, if_neg h1, if_neg h2, if_neg h3, if_pos (by exact h4)]
    rw [if_neg h4]
    by_cases h5 : c ∈ ones
    · rw [if_pos h5]; intro _; simp only []
      rw [show (c :: t).take 1 = [c] from rfl, token_cons, if_neg h1, if_neg h2, if_neg h3, if_neg (by simp [headTwo]), if_pos h5]
    · rw [if_neg h5]; intro h; exact absurd rfl h
/-- The tokens of a list: none where something is wrong. -/
def toks : Nat → List UInt8 → Option (List (Nat × List UInt8))
  | 0, _ => none
  | n + 1, l =>
    if (gap l).2 = true then
      if l.length ≤ (gap l).1 then some []
      else if (token (l.drop (gap l).1)).1 = 0 then none
      else (toks n ((l.drop (gap l).1).drop (token (l.drop (gap l).1)).2)).map fun ts => ((token (l.drop (gap l).1)).1, (l.drop (gap l).1).take (token (l.drop (gap l).1)).2) :: ts
    else none
theorem toks_more : ∀ (n : Nat) (l : List UInt8), l.length < n → ∀ m, l.length < m → toks m l = toks n l := by
  intro n
  induction n with
  | zero => intro l h; omega
  | succ n ih =>
    intro l h m hm
    obtain ⟨m, rfl⟩ : ∃ k, m = k + 1 := ⟨m - 1, by omega⟩
    unfold toks
    split
    · split
      · rfl
      · split
        · rfl
        · rename_i hg hl ht
          have hf := token_facts (l.drop (gap l).1)
          rcases hf with hf | ⟨_, _, h2, h3⟩
          · rw [hf] at ht; exact absurd rfl ht
          · rw [List.length_drop] at h3
            rw [ih _ (by simp; omega) m (by simp; omega)]
    · rfl
def toksOf (l : List UInt8) : Option (List (Nat × List UInt8)) := toks (l.length + 1) l
theorem toks_of (n : Nat) (l : List UInt8) (h : l.length < n) : toks n l = toksOf l := toks_more (l.length + 1) l (by omega) n h
theorem indexByte_cons (x : UInt8) (t : List UInt8) (c : UInt8) : Lib.indexByte (x :: t) c = if (x == c) = true then 0 else if (Lib.indexByte t c == -1) = true then -1 else Lib.indexByte t c + 1 := rfl
theorem indexByte_found (c : UInt8) (m : List UInt8) : ∀ l : List UInt8, 0 ≤ Lib.indexByte l c → Lib.indexByte (l ++ m) c = Lib.indexByte l c
  | [], h => by simp [Lib.indexByte] at h
  | x :: t, h => by
    rw [List.cons_append, indexByte_cons, indexByte_cons]
    rw [indexByte_cons] at h
    by_cases h1 : (x == c) = true
    · rw [if_pos h1, if_pos h1]
    rw [if_neg h1] at h ⊢
    rw [if_neg h1]
    by_cases h2 : (Lib.indexByte t c == -1) = true
    · rw [if_pos h2] at h; exact absurd h (by decide)
    · have hge := Lib.indexByte_ge t c
      have hne : Lib.indexByte t c ≠ -1 := fun e => h2 (by rw [e]; rfl)
      rw [indexByte_found c m t (by omega)]
theorem indexByte_missed (c : UInt8) (m : List UInt8) : ∀ l : List UInt8, Lib.indexByte l c < 0 → Lib.indexByte (l ++ c :: m) c = (l.length : Int)
  | [], h => by rw [List.nil_append, indexByte_cons, if_pos (by simp)]; rfl
  | x :: t, h => by
    rw [List.cons_append, indexByte_cons]
    rw [indexByte_cons] at h
    by_cases h1 : (x == c) = true
    · rw [if_pos h1] at h; exact absurd h (by decide)
    rw [if_neg h1] at h ⊢
    have hge := Lib.indexByte_ge t c
    have hlt : Lib.indexByte t c < 0 := by
      by_cases h2 : (Lib.indexByte t c == -1) = true
      · have := eq_of_beq h2; omega
      · rw [if_neg h2] at h; omega
    rw [indexByte_missed c m t hlt, if_neg (by simp)]
    simp
theorem prefix_app {p l : List UInt8} (m : List UInt8) (h : p.isPrefixOf l = true) : p.isPrefixOf (l ++ m) = true := by
  rw [List.isPrefixOf_iff_prefix] at h ⊢
  exact h.trans (List.prefix_append l m)
theorem index_found (p m : List UInt8) (hp : p.length ≤ 2) : ∀ l : List UInt8, 0 ≤ Lib.index l p → Lib.index (l ++ m) p = Lib.index l p ∨ p = []
  | [], h => by
    unfold Lib.index at h
    cases p with
    | nil => exact .inr rfl
    | cons a t => simp at h
  | x :: t, h => by
    rw [List.cons_append, index_cons, index_cons]
    rw [index_cons] at h
    by_cases h1 : p.isPrefixOf (x :: t) = true
    · rw [if_pos h1, if_pos (by rw [← List.cons_append]; exact prefix_app m h1)]; exact .inl rfl
    rw [if_neg h1] at h
    rw [if_neg h1]
    by_cases h2 : (Lib.index t p == -1) = true
    · rw [if_pos h2] at h; exact absurd h (by decide)
    rw [if_neg h2] at h
    have hge := Lib.index_ge t p
    have hne : Lib.index t p ≠ -1 := fun e => h2 (by rw [e]; rfl)
    have hin := index_le t (p := p) (by omega)
    rcases index_found p m hp t (by omega) with e | e
    · rw [e]
      have h3 : ¬ p.isPrefixOf (x :: (t ++ m)) = true := by
        intro hh
        apply h1
        rw [List.isPrefixOf_iff_prefix] at hh ⊢
        rw [← List.cons_append] at hh
        exact List.prefix_of_prefix_length_le hh (List.prefix_append _ _) (by simp only [List.length_cons]; omega)
      rw [if_neg h3]
      exact .inl rfl
    · exact .inr e
theorem two_app {c x y b : UInt8} {t rest : List UInt8} (hb : b ≠ y) : Lib.hasPrefix (c :: (t ++ b :: rest)) [x, y] = Lib.hasPrefix (c :: t) [x, y] := by
  cases t with
  | nil =>
    unfold Lib.hasPrefix
    simp [List.isPrefixOf]
    intro _ e; exact hb e.symm
  | cons d t => simp [Lib.hasPrefix, List.isPrefixOf]
/-- The gap where a line's end and more is put behind the text. -/
theorem gap_app (rest : List UInt8) : ∀ (n : Nat) (l : List UInt8), l.length ≤ n → (gap l).2 = true →
    gap (l ++ 10 :: rest) = if (gap l).1 < l.length then gap l else (l.length + 1 + (gap rest).1, (gap rest).2) := by
  intro n
  induction n with
  | zero =>
    intro l hl _
    have : l = [] := List.eq_nil_of_length_eq_zero (by omega)
    subst this
    rw [List.nil_append, gap_blank (by rfl), gap_nil, if_neg (by simp)]
    simp; omega
  | succ n ih =>
    intro l hl h
    match l with
    | [] => rw [List.nil_append, gap_blank (by rfl), gap_nil, if_neg (by simp)]; simp; omega
    | c :: t =>
      simp only [List.length_cons] at hl
      by_cases h1 : isBlank c = true
      · rw [gap_blank h1] at h ⊢
        rw [List.cons_append, gap_blank h1, ih t (by omega) h]
        by_cases h2 : (gap t).1 < t.length
        · rw [if_pos h2, if_pos (by simp; exact h2)]
        · rw [if_neg h2, if_neg (by simp; omega)]; simp; omega
      by_cases h2 : Lib.hasPrefix (c :: t) [47, 47] = true
      · have h2' : Lib.hasPrefix (c :: t ++ 10 :: rest) [47, 47] = true := prefix_app _ h2
        by_cases h3 : Lib.indexByte (c :: t) 10 < 0
        · have he := indexByte_missed 10 rest (c :: t) h3
          rw [gap_last h1 h2 h3, if_neg (by simp)]
          rw [List.cons_append] at he h2' ⊢
          rw [gap_line h1 h2' (by rw [he]; omega), he, Int.toNat_natCast]
          rw [← List.cons_append, List.drop_left' rfl, gap_blank (by rfl)]
          simp; omega
        · have h3' : 0 ≤ Lib.indexByte (c :: t) 10 := by omega
          have he := indexByte_found 10 (10 :: rest) (c :: t) h3'
          have hp := indexByte_pos (c := c) (d := 10) (t := t) (by have := prefix_head h2; subst this; decide) h3'
          have hlt := indexByte_lt h3'
          rw [gap_line h1 h2 h3'] at h ⊢
          rw [List.cons_append] at he h2' ⊢
          rw [gap_line h1 h2' (by rw [he]; omega), he]
          obtain ⟨i, hi⟩ : ∃ i, i = (Lib.indexByte (c :: t) 10).toNat := ⟨_, rfl⟩
          rw [← hi] at h hp ⊢
          have hile : i ≤ (c :: t).length := by simp only [List.length_cons] at hlt ⊢; omega
          rw [← List.cons_append, List.drop_append_of_le_length hile, ih ((c :: t).drop i) (by simp; omega) h]
          have hdl : ((c :: t).drop i).length = (c :: t).length - i := by simp
          by_cases h4 : (gap ((c :: t).drop i)).1 < ((c :: t).drop i).length
          · rw [if_pos h4, if_pos (by simp only []; omega)]
          · rw [if_neg h4, if_neg (by simp only []; omega)]
            simp only [Prod.mk.injEq, and_true]
            omega
      by_cases h3 : Lib.hasPrefix (c :: t) [47, 42] = true
      · have h2' : ¬ Lib.hasPrefix (c :: (t ++ 10 :: rest)) [47, 47] = true := by rw [two_app (by decide)]; exact h2
        have h3' : Lib.hasPrefix (c :: (t ++ 10 :: rest)) [47, 42] = true := by rw [two_app (by decide)]; exact h3
        by_cases h4 : Lib.index ((c :: t).drop 2) [42, 47] < 0
        · rw [gap_open h1 h2 h3 h4] at h; cases h
        · have h4' : 0 ≤ Lib.index ((c :: t).drop 2) [42, 47] := by omega
          have hp2 := prefix_len h3
          have he : Lib.index ((c :: (t ++ 10 :: rest)).drop 2) [42, 47] = Lib.index ((c :: t).drop 2) [42, 47] := by
            rw [← List.cons_append, List.drop_append_of_le_length (show 2 ≤ (c :: t).length from hp2)]
            rcases index_found [42, 47] (10 :: rest) (by simp) ((c :: t).drop 2) h4' with e | e
            · exact e
            · cases e
          have hle := index_le _ h4'
          rw [gap_remark h1 h2 h3 h4'] at h ⊢
          rw [List.cons_append, gap_remark h1 h2' h3' (by rw [he]; exact h4'), he]
          obtain ⟨i, hi⟩ : ∃ i, i = (Lib.index ((c :: t).drop 2) [42, 47]).toNat + 4 := ⟨_, rfl⟩
          rw [← hi] at h ⊢
          have hile : i ≤ (c :: t).length := by
            simp only [List.length_drop, List.length_cons, List.length_nil] at hle hp2 ⊢
            omega
          rw [← List.cons_append, List.drop_append_of_le_length hile, ih ((c :: t).drop i) (by simp; omega) h]
          have hdl : ((c :: t).drop i).length = (c :: t).length - i := by simp
          by_cases h5 : (gap ((c :: t).drop i)).1 < ((c :: t).drop i).length
          · rw [if_pos h5, if_pos (by simp only []; omega)]
          · rw [if_neg h5, if_neg (by simp only []; omega)]
            simp only [Prod.mk.injEq, and_true]
            omega
      · rw [gap_stop h1 h2 h3, List.cons_append, gap_stop h1 (by rw [two_app (by decide)]; exact h2) (by rw [two_app (by decide)]; exact h3), if_pos (by simp)]
/-- What stands behind a gap that runs on. -/
def Runs (g : List UInt8) : Prop := ∀ rest, gap (g ++ rest) = (g.length + (gap rest).1, (gap rest).2)
theorem toks_runs {g : List UInt8} (h : Runs g) (n : Nat) (rest : List UInt8) : toks n (g ++ rest) = toks n rest := by
  cases n with
  | zero => rfl
  | succ n =>
    unfold toks
    rw [h rest]
    simp only []
    have e : (g ++ rest).drop (g.length + (gap rest).1) = rest.drop (gap rest).1 := by rw [← List.drop_drop, List.drop_left' rfl]
    rw [e]
    by_cases h1 : (gap rest).2 = true
    · rw [if_pos h1, if_pos h1]
      by_cases h2 : rest.length ≤ (gap rest).1
      · rw [if_pos h2, if_pos (by simp; omega)]
      · rw [if_neg h2, if_neg (by simp; omega)]
    · rw [if_neg h1, if_neg h1]
theorem toks_joined (rest : List UInt8) (B : List (Nat × List UInt8)) (hB : toksOf rest = some B) : ∀ (n : Nat) (l : List UInt8) (A : List (Nat × List UInt8)), l.length < n → toks n l = some A → ∀ m, (l ++ 10 :: rest).length < m → toks m (l ++ 10 :: rest) = some (A ++ B) := by
  intro n
  induction n with
  | zero => intro l A h; omega
  | succ n ih =>
    intro l A hl h m hm
    obtain ⟨m, rfl⟩ : ∃ k, m = k + 1 := ⟨m - 1, by omega⟩
    simp only [List.length_append, List.length_cons] at hm
    unfold toks at h
    by_cases h1 : (gap l).2 = true
    · rw [if_pos h1] at h
      have hg := gap_app rest l.length l (Nat.le_refl _) h1
      by_cases h2 : l.length ≤ (gap l).1
      · rw [if_pos h2] at h
        obtain rfl := Option.some.inj h
        rw [if_neg (by omega)] at hg
        have hrun : toks (m + 1) (l ++ 10 :: rest) = toks (m + 1) rest := by
          unfold toks
          rw [hg]
          simp only []
          have e : (l ++ 10 :: rest).drop (l.length + 1 + (gap rest).1) = rest.drop (gap rest).1 := by
            rw [← List.drop_drop, ← List.drop_drop, List.drop_left' rfl]; rfl
          rw [e]
          by_cases h3 : (gap rest).2 = true
          · rw [if_pos h3, if_pos h3]
            by_cases h4 : rest.length ≤ (gap rest).1
            · rw [if_pos h4, if_pos (by simp; omega)]
            · rw [if_neg h4, if_neg (by simp; omega)]
          · rw [if_neg h3, if_neg h3]
        rw [hrun, toks_of _ _ (by omega), hB]; rfl
      · rw [if_neg h2] at h
        rw [if_pos (by omega)] at hg
        by_cases h3 : (token (l.drop (gap l).1)).1 = 0
        · rw [if_pos h3] at h; cases h
        rw [if_neg h3] at h
        obtain ⟨A', hA', rfl⟩ := Option.map_eq_some_iff.1 h
        have hdr : (l ++ 10 :: rest).drop (gap l).1 = l.drop (gap l).1 ++ 10 :: rest := List.drop_append_of_le_length (by omega)
        have htk := tok_app (l.drop (gap l).1) 10 rest (by rfl) h3
        have hf := token_facts (l.drop (gap l).1)
        have hf2 : 1 ≤ (token (l.drop (gap l).1)).2 ∧ (token (l.drop (gap l).1)).2 ≤ (l.drop (gap l).1).length := by
          rcases hf with hf | ⟨_, _, q2, q3⟩
          · rw [hf] at h3; exact absurd rfl h3
          · exact ⟨q2, q3⟩
        unfold toks
        rw [hg, if_pos h1, if_neg (by simp; omega), hdr, htk, if_neg h3, List.drop_append_of_le_length hf2.2, List.take_append_of_le_length hf2.2]
        rw [List.length_drop] at hf2
        rw [ih _ A' (by simp; omega) hA' m (by simp; omega)]
        rfl
    · rw [if_neg h1] at h; cases h
theorem join_toks {l rest : List UInt8} {A B : List (Nat × List UInt8)} (hA : toksOf l = some A) (hB : toksOf rest = some B) : toksOf (l ++ 10 :: rest) = some (A ++ B) :=
  toks_joined rest B hB (l.length + 1) l A (by omega) hA _ (by omega)
end Go.Proofs.YtjegaejdphmdgaaDoor.Print
