/-
  What the law functions' fixed fact answers: plain.
-/
import Derived.Test.YtjegaejdphmdgaaDoorLx
import Derived.Test.YtjegaejdphmdgaaDoorPrB2
namespace Go.Proofs.YtjegaejdphmdgaaDoor.Print
open Go.RowKit Go.Lib Go.Proofs.YtjegaejdphmdgaaDoorW.PrintWords Go.Proofs.YtjegaejdphmdgaaDoor.LexP
set_option linter.unusedVariables false

theorem lmean_plain (s : ByteArray) (n : Nat) (hn : 2 ≤ n) (hs : s.size < 35184372088832) : lex_Mean.f n s = some (meanRes (mean s.data.toList)) :=
  at_rounds (lex_Mean.mono s) hn (lex_Mean_plain s hs)
def doc1 : ByteArray := ⟨#[112, 45, 62, 120, 32, 61, 32, 48, 120, 49, 102, 59]⟩
def doc2 : ByteArray := ⟨#[32, 49, 50, 97]⟩
theorem doc1_reads : (lexR doc1).2.2 = 0 ∧ (lexR doc1).1.length = 7 ∧ ((((rd_T31 (lexR doc1).1 1).f0) == 3 && ((((rd_T31 (lexR doc1).1 1).f1).toList) == ([45, 62] : List UInt8) && (((rd_T31 (lexR doc1).1 1).f2) == 1))) = true) := by decide +kernel
theorem doc2_reads : (lexR doc2).2.2 = 10 ∧ ((lexR doc2).2.1 == 1) = true := by decide +kernel
theorem awake_plain (n : Nat) (hn : 8194 ≤ n) : hauberklaw05_awake.f n = some true := by
  unfold hauberklaw05_awake.f
  have h1 := doc1_reads
  have h2 := doc2_reads
  rw [lex_plain _ n hn, lmean_plain _ n (by omega) (by decide), lex_plain _ n hn]
  simp only [Option.bind_some]
  rw [show mean [39, 65, 39] = some 65 by decide +kernel]
  change (if (lexR doc1).2.2 = 0 then _ else _) = _
  rw [if_pos h1.1]
  change (if ((lexR doc1).1.length : Int) = 7 then _ else _) = _
  rw [if_pos (by rw [h1.2.1]; rfl)]
  change (if 1 < ((lexR doc1).1.length : Int) then _ else _) = _
  rw [if_pos (by rw [h1.2.1]; decide)]
  change (if (((rd_T31 (lexR doc1).1 1).f0) == 3 && ((((rd_T31 (lexR doc1).1 1).f1).toList) == ([45, 62] : List UInt8) && (((rd_T31 (lexR doc1).1 1).f2) == 1))) = true then _ else _) = _
  rw [if_pos h1.2.2]
  change (if (lexR doc2).2.2 = 10 then some ((lexR doc2).2.1 == 1) else some false) = _
  rw [if_pos h2.1, h2.2]
theorem num_sign {c : UInt8} {t : List UInt8} (h1 : ¬ isDigit c = true) (h2 : c ≠ 39) : mean (c :: t) = none := by
  rw [mean_else (by unfold quoted; split <;> simp_all), meanNum_first h1]
theorem letter_byte (c : UInt8) : isLetter c = true → ¬ isDigit c = true ∧ c ≠ 39 := all_bytes (P := fun c => isLetter c = true → ¬ isDigit c = true ∧ c ≠ 39) (by decide +kernel) c
theorem take_cons {c : UInt8} {t : List UInt8} {n : Nat} (h : 1 ≤ n) : (c :: t).take n = c :: t.take (n - 1) := by
  obtain ⟨m, rfl⟩ : ∃ m, n = m + 1 := ⟨n - 1, by omega⟩
  rfl
end Go.Proofs.YtjegaejdphmdgaaDoor.Print
