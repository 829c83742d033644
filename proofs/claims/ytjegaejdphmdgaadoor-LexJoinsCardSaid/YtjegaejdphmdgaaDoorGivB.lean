/-
  lex.gap, lex.token, hauberkref05.gap, hauberkref05.token: their contracts in the print's form.
-/
import Derived.Test.YtjegaejdphmdgaaDoorTok3
import Derived.Test.YtjegaejdphmdgaaDoorRt2
namespace Go.Proofs.YtjegaejdphmdgaaDoor.Print
open Go.RowKit Go.Lib Go.Maps Go.Proofs.YtjegaejdphmdgaaDoorW.PrintWords Go.Proofs.YtjegaejdphmdgaaDoor.LexP
set_option linter.unusedVariables false

def lex_gap.f (a0 : ByteArray) (a1 : Int) : Option (Int × Bool) :=
  if a0.size < 4294967281 ∧ 0 ≤ a1 ∧ a1 ≤ a0.size then some (a1 + ((gap (a0.data.toList.drop a1.toNat)).1 : Int), (gap (a0.data.toList.drop a1.toNat)).2) else none
theorem lex_gap.calls (a0 : ByteArray) (a1 : Int) (r1 : Int) (r2 : Bool) (w : World) (hL : Laid w) (h : lex_gap.f a0 a1 = some (r1, r2)) :
    Calls Tryd.prog 16 #[.string a0, .int .i64 a1] w fun e w' => e = .returned (.tuple #[.int .i64 r1, .bool r2]) ∧ Drawn0 w w' := by
  unfold lex_gap.f at h
  split at h
  · rename_i hc
    obtain ⟨n, rfl⟩ : ∃ n : Nat, a1 = n := ⟨a1.toNat, by omega⟩
    simp only [Int.toNat_natCast, Option.some.injEq, Prod.mk.injEq] at h
    obtain ⟨rfl, rfl⟩ := h
    exact (gap_any a0 n w hL hc.1 (by omega)).mono fun e w' ⟨he, hw⟩ => ⟨he, hw ▸ d0 w⟩
  · cases h
def hauberkref05_gap.f (a0 : ByteArray) (a1 : Int) : Option (Int × Bool) := lex_gap.f a0 a1
theorem hauberkref05_gap.calls (a0 : ByteArray) (a1 : Int) (r1 : Int) (r2 : Bool) (w : World) (hL : Laid w) (h : hauberkref05_gap.f a0 a1 = some (r1, r2)) :
    Calls Tryd.prog 18 #[.string a0, .int .i64 a1] w fun e w' => e = .returned (.tuple #[.int .i64 r1, .bool r2]) ∧ Drawn0 w w' := by
  unfold hauberkref05_gap.f lex_gap.f at h
  split at h
  · rename_i hc
    obtain ⟨n, rfl⟩ : ∃ n : Nat, a1 = n := ⟨a1.toNat, by omega⟩
    simp only [Int.toNat_natCast, Option.some.injEq, Prod.mk.injEq] at h
    obtain ⟨rfl, rfl⟩ := h
    exact (rgap_any a0 n w hc.1 (by omega)).mono fun e w' ⟨he, hw⟩ => ⟨he, hw ▸ d0 w⟩
  · cases h
def lex_token.f (a0 : ByteArray) : Option (Int × Int) := if 0 < a0.size ∧ a0.size < 35184372088832 then some (((token a0.data.toList).1 : Int), ((token a0.data.toList).2 : Int)) else none
theorem lex_token.calls (a0 : ByteArray) (r1 r2 : Int) (w : World) (hL : Laid w) (h : lex_token.f a0 = some (r1, r2)) :
    Calls Tryd.prog 17 #[.string a0] w fun e w' => e = .returned (.tuple #[.int .i64 r1, .int .i64 r2]) ∧ Below w.heap.size w w' := by
  unfold lex_token.f at h
  split at h
  · rename_i hc
    cases hl : a0.data.toList with
    | nil => have := size_len a0; rw [hl] at this; simp at this; omega
    | cons c t =>
      rw [hl] at h
      simp only [Option.some.injEq, Prod.mk.injEq] at h
      obtain ⟨rfl, rfl⟩ := h
      by_cases h1 : isLetter c = true
      · exact token_letter a0 c t w hL (by omega) hl h1
      by_cases h2 : isDigit c = true
      · exact token_digit a0 c t w hL (by omega) hc.2 hl h1 h2
      by_cases h3 : c = 39
      · exact token_quote a0 c t w hL hc.2 hl h3
      cases t with
      | nil => exact token_last a0 c w hL hc.2 hl h1 h2 h3
      | cons d t => exact token_two a0 c d t w hL hc.2 hl h1 h2 h3
  · cases h
def hauberkref05_token.f (a0 : ByteArray) (a1 : Int) : Option (Int × Int) :=
  if a0.size < 4294967281 ∧ 0 ≤ a1 ∧ a1 < a0.size then some (if (token (a0.data.toList.drop a1.toNat)).1 = 0 then (0, 0) else (((token (a0.data.toList.drop a1.toNat)).1 : Int), a1 + ((token (a0.data.toList.drop a1.toNat)).2 : Int))) else none
theorem hauberkref05_token.calls (a0 : ByteArray) (a1 : Int) (r1 r2 : Int) (w : World) (hL : Laid w) (h : hauberkref05_token.f a0 a1 = some (r1, r2)) :
    Calls Tryd.prog 19 #[.string a0, .int .i64 a1] w fun e w' => e = .returned (.tuple #[.int .i64 r1, .int .i64 r2]) ∧ Below w.heap.size w w' := by
  unfold hauberkref05_token.f at h
  split at h
  · rename_i hc
    obtain ⟨n, rfl⟩ : ∃ n : Nat, a1 = n := ⟨a1.toNat, by omega⟩
    simp only [Int.toNat_natCast, Option.some.injEq] at h
    have := rtoken_any a0 n w hL hc.1 (by omega)
    unfold rtok at this
    rw [h] at this
    exact this
  · cases h
end Go.Proofs.YtjegaejdphmdgaaDoor.Print
