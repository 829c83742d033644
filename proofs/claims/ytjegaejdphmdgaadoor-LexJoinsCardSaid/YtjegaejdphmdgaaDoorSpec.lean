/-
  The plain words of the lexer, over lists of bytes: what a TNum means, the token that a text begins with, the gap ahead of one. No program in sight.
-/
import Derived.Lib.Index
import Derived.Lib.Strings
namespace Go.Proofs.YtjegaejdphmdgaaDoor.LexP

def isLetter (c : UInt8) : Bool := (97 ≤ c && c ≤ 122) || (65 ≤ c && c ≤ 90) || c == 95
def isDigit (c : UInt8) : Bool := 48 ≤ c && c ≤ 57
def isWordB (c : UInt8) : Bool := isLetter c || isDigit c
/-- A digit's worth in a base of 10 or 16, written small. -/
def dig (base : Nat) (c : UInt8) : Option Nat :=
  if isDigit c then some (c.toNat - 48) else if base = 16 ∧ 97 ≤ c ∧ c ≤ 102 then some (c.toNat - 87) else none
/-- A row of digits behind a number, below 2^63. -/
def num (base : Nat) : Nat → List UInt8 → Option Nat
  | acc, [] => some acc
  | acc, c :: l => match dig base c with
    | none => none
    | some d => if acc * base + d < 9223372036854775808 then num base (acc * base + d) l else none
def meanNum (s : List UInt8) : Option Nat :=
  match s with
  | [] => none
  | c :: l =>
    if 20 < (c :: l).length then none
    else if !isDigit c then none
    else match c, l with
      | 48, 120 :: [] => none
      | 48, 120 :: l' => num 16 0 l'
      | c, l => num 10 0 (c :: l)
/-- What a TNum means. -/
def mean (s : List UInt8) : Option Nat :=
  match s with
  | [39, c, 39] => if 32 ≤ c ∧ c ≤ 126 ∧ c ≠ 39 ∧ c ≠ 92 then some c.toNat else none
  | s => meanNum s

def words : List (List UInt8) :=
  [[99, 104, 97, 114], [105, 110, 116], [108, 111, 110, 103], [118, 111, 105, 100], [115, 116, 114, 117, 99, 116], [105, 102], [101, 108, 115, 101], [119, 104, 105, 108, 101], [114, 101, 116, 117, 114, 110], [98, 114, 101, 97, 107], [99, 111, 110, 116, 105, 110, 117, 101], [115, 105, 122, 101, 111, 102], [109, 97, 108, 108, 111, 99]]
def twos : List (UInt8 × UInt8) := [(45, 62), (60, 60), (62, 62), (60, 61), (62, 61), (61, 61), (33, 61), (38, 38), (124, 124)]
def ones : List UInt8 := [43, 45, 42, 47, 37, 38, 124, 94, 126, 33, 60, 62, 61, 40, 41, 123, 125, 91, 93, 59, 44, 46]
def span (l : List UInt8) : Nat := (l.takeWhile isWordB).length
/-- The token that a text begins with: its kind, its length; (0, 0): there is none. -/
def token (l : List UInt8) : Nat × Nat :=
  match l with
  | [] => (0, 0)
  | c :: t =>
    if isLetter c then
      if (c :: t).takeWhile isWordB ∈ words then (4, span (c :: t))
      else if 32 < span (c :: t) then (0, 0) else (1, span (c :: t))
    else if isDigit c then
      if (mean ((c :: t).takeWhile isWordB)).isSome then (2, span (c :: t)) else (0, 0)
    else if c = 39 then
      if (mean ((c :: t).take 3)).isSome then (2, 3) else (0, 0)
    else if (match t with | [] => false | d :: _ => decide ((c, d) ∈ twos)) then (3, 2)
    else if c ∈ ones then (3, 1)
    else (0, 0)


def isBlank (c : UInt8) : Bool := c == 32 || c == 9 || c == 10 || c == 13
/-- How many bytes stand ahead of the next token; false: a remark has no end (it begins there). -/
def gapF : Nat → List UInt8 → Nat × Bool
  | 0, _ => (0, true)
  | _, [] => (0, true)
  | k + 1, c :: t =>
    if isBlank c then ((gapF k t).1 + 1, (gapF k t).2)
    else if Lib.hasPrefix (c :: t) [47, 47] then
      if Lib.indexByte (c :: t) 10 < 0 then ((c :: t).length, true)
      else ((Lib.indexByte (c :: t) 10).toNat + (gapF k ((c :: t).drop (Lib.indexByte (c :: t) 10).toNat)).1, (gapF k ((c :: t).drop (Lib.indexByte (c :: t) 10).toNat)).2)
    else if Lib.hasPrefix (c :: t) [47, 42] then
      if Lib.index ((c :: t).drop 2) [42, 47] < 0 then (0, false)
      else ((Lib.index ((c :: t).drop 2) [42, 47]).toNat + 4 + (gapF k ((c :: t).drop ((Lib.index ((c :: t).drop 2) [42, 47]).toNat + 4))).1, (gapF k ((c :: t).drop ((Lib.index ((c :: t).drop 2) [42, 47]).toNat + 4))).2)
    else (0, true)
def gap (l : List UInt8) : Nat × Bool := gapF l.length l

theorem indexByte_pos {c d : UInt8} {t : List UInt8} (h : c ≠ d) (h0 : 0 ≤ Lib.indexByte (c :: t) d) : 0 < (Lib.indexByte (c :: t) d).toNat := by
  unfold Lib.indexByte at h0 ⊢
  have : (c == d) = false := beq_eq_false_iff_ne.2 h
  rw [this] at h0 ⊢
  simp only [Bool.false_eq_true, if_false] at h0 ⊢
  split at h0
  · omega
  · rename_i hh
    rw [if_neg hh]
    have := Lib.indexByte_ge t d
    have : Lib.indexByte t d ≠ -1 := fun e => hh (by rw [e]; rfl)
    omega
theorem prefix_head {c : UInt8} {t p : List UInt8} {a : UInt8} (h : Lib.hasPrefix (c :: t) (a :: p) = true) : c = a := by
  unfold Lib.hasPrefix at h
  simp only [List.isPrefixOf, Bool.and_eq_true, beq_iff_eq] at h
  exact h.1.symm
/-- More fuel tells the same. -/
theorem gapF_more : ∀ (k : Nat) (l : List UInt8), l.length ≤ k → ∀ j, l.length ≤ j → gapF j l = gapF k l := by
  intro k
  induction k with
  | zero =>
    intro l hl j hj
    have : l = [] := List.eq_nil_of_length_eq_zero (by omega)
    subst this
    cases j <;> rfl
  | succ k ih =>
    intro l hl j hj
    match l, j with
    | [], 0 => rfl
    | [], j + 1 => rfl
    | c :: t, 0 => simp at hj
    | c :: t, j + 1 =>
      simp only [List.length_cons] at hl hj
      unfold gapF
      rw [ih t (by omega) j (by omega)]
      by_cases h1 : isBlank c = true
      · rw [if_pos h1, if_pos h1]
      rw [if_neg h1, if_neg h1]
      by_cases h2 : Lib.hasPrefix (c :: t) [47, 47] = true
      · rw [if_pos h2, if_pos h2]
        by_cases h3 : Lib.indexByte (c :: t) 10 < 0
        · rw [if_pos h3, if_pos h3]
        · rw [if_neg h3, if_neg h3]
          have hp := indexByte_pos (c := c) (d := 10) (t := t) (by have := prefix_head h2; subst this; decide) (by omega)
          rw [ih _ (by simp; omega) j (by simp; omega)]
      rw [if_neg h2, if_neg h2]
      by_cases h3 : Lib.hasPrefix (c :: t) [47, 42] = true
      · rw [if_pos h3, if_pos h3]
        by_cases h4 : Lib.index ((c :: t).drop 2) [42, 47] < 0
        · rw [if_pos h4, if_pos h4]
        · rw [if_neg h4, if_neg h4]
          rw [ih _ (by simp; omega) j (by simp; omega)]
      rw [if_neg h3, if_neg h3]
theorem gapF_gap (k : Nat) (l : List UInt8) (h : l.length ≤ k) : gapF k l = gap l := gapF_more _ _ (Nat.le_refl _) k h
theorem gap_nil : gap [] = (0, true) := rfl
theorem gap_blank {c : UInt8} {t : List UInt8} (h : isBlank c = true) : gap (c :: t) = ((gap t).1 + 1, (gap t).2) := by
  show gapF (t.length + 1) (c :: t) = _
  simp only [gapF, if_pos h]
  rfl
theorem gap_line {c : UInt8} {t : List UInt8} (h : ¬ isBlank c = true) (h2 : Lib.hasPrefix (c :: t) [47, 47] = true) (h3 : 0 ≤ Lib.indexByte (c :: t) 10) :
    gap (c :: t) = ((Lib.indexByte (c :: t) 10).toNat + (gap ((c :: t).drop (Lib.indexByte (c :: t) 10).toNat)).1, (gap ((c :: t).drop (Lib.indexByte (c :: t) 10).toNat)).2) := by
  have hp := indexByte_pos (c := c) (d := 10) (t := t) (by have := prefix_head h2; subst this; decide) h3
  show gapF (t.length + 1) (c :: t) = _
  simp only [gapF]
  rw [if_neg h, if_pos h2, if_neg (by omega), gapF_gap _ _ (by simp; omega)]
theorem gap_last {c : UInt8} {t : List UInt8} (h : ¬ isBlank c = true) (h2 : Lib.hasPrefix (c :: t) [47, 47] = true) (h3 : Lib.indexByte (c :: t) 10 < 0) :
    gap (c :: t) = ((c :: t).length, true) := by
  show gapF (t.length + 1) (c :: t) = _
  simp only [gapF]
  rw [if_neg h, if_pos h2, if_pos h3]
theorem gap_open {c : UInt8} {t : List UInt8} (h : ¬ isBlank c = true) (h2 : ¬ Lib.hasPrefix (c :: t) [47, 47] = true) (h3 : Lib.hasPrefix (c :: t) [47, 42] = true) (h4 : Lib.index ((c :: t).drop 2) [42, 47] < 0) :
    gap (c :: t) = (0, false) := by
  show gapF (t.length + 1) (c :: t) = _
  simp only [gapF]
  rw [if_neg h, if_neg h2, if_pos h3, if_pos h4]
theorem gap_remark {c : UInt8} {t : List UInt8} (h : ¬ isBlank c = true) (h2 : ¬ Lib.hasPrefix (c :: t) [47, 47] = true) (h3 : Lib.hasPrefix (c :: t) [47, 42] = true) (h4 : 0 ≤ Lib.index ((c :: t).drop 2) [42, 47]) :
    gap (c :: t) = ((Lib.index ((c :: t).drop 2) [42, 47]).toNat + 4 + (gap ((c :: t).drop ((Lib.index ((c :: t).drop 2) [42, 47]).toNat + 4))).1, (gap ((c :: t).drop ((Lib.index ((c :: t).drop 2) [42, 47]).toNat + 4))).2) := by
  show gapF (t.length + 1) (c :: t) = _
  simp only [gapF]
  rw [if_neg h, if_neg h2, if_pos h3, if_neg (by omega), gapF_gap _ _ (by simp)]
theorem gap_stop {c : UInt8} {t : List UInt8} (h : ¬ isBlank c = true) (h2 : ¬ Lib.hasPrefix (c :: t) [47, 47] = true) (h3 : ¬ Lib.hasPrefix (c :: t) [47, 42] = true) :
    gap (c :: t) = (0, true) := by
  show gapF (t.length + 1) (c :: t) = _
  simp only [gapF]
  rw [if_neg h, if_neg h2, if_neg h3]
end Go.Proofs.YtjegaejdphmdgaaDoor.LexP
