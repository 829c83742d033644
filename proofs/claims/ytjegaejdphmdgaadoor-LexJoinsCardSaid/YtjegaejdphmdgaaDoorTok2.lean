/-
  lex.token, the rest: a quoted letter, a sign of two bytes, a sign of one.
-/
import Derived.Test.YtjegaejdphmdgaaDoorTok
import Derived.Test.YtjegaejdphmdgaaDoorWMore
import Derived.Deep.QuietTactic
import Derived.BigQuiet
namespace Go.Proofs.YtjegaejdphmdgaaDoor.Print
open Go.RowKit Go.Lib Go.Maps Go.Proofs.YtjegaejdphmdgaaDoorW.PrintWords Go.Proofs.YtjegaejdphmdgaaDoorW.PrintMore Go.Proofs.YtjegaejdphmdgaaDoor.LexP
attribute [local go_sem] max2_int min2_int max_two min_two max_three min_three max_four min_four
set_option linter.unusedVariables false

set_option maxRecDepth 100000 in
theorem sign_lookup {b : Nat} {w : World} (h : HasSigns b w) (c d : UInt8) :
    (Instr.lookup 65 (.map (some b)) (.agg #[.int .u8 (c.toNat : Int), .int .u8 (d.toNat : Int)]) false).run Tryd.prog w = .ok (.int .i64 (if (c, d) ∈ twos then 2 else 0)) w := by
  obtain ⟨n, D, hown, hD⟩ := h
  obtain ⟨v, hrun, hat, _⟩ := hown.lookup_int (t := 65) (e := 3) (q := .i64) law68 Tryd.underlying65 Tryd.underlying3 (zero3 w) (keyOf_pair c d)
  rw [hD] at hat
  injection hat with hat
  injection hat with _ hat
  rw [hrun, hat]

set_option maxHeartbeats 4000000 in
set_option maxRecDepth 100000 in
theorem token_quote (s : ByteArray) (c : UInt8) (t : List UInt8) (w : World) (hL : Laid w) (hs : s.size < 35184372088832) (hl : s.data.toList = c :: t) (hc39 : c = 39) :
    Calls Tryd.prog 17 #[.string s] w fun e w' => e = .returned (.tuple #[.int .i64 ((token (c :: t)).1 : Int), .int .i64 ((token (c :: t)).2 : Int)]) ∧ Below w.heap.size w w' := by
  have hi : ∀ h : 0 < s.size, (((s[0]'h).toNat : Int)) = (c.toNat : Int) := by
    intro h; have := bt_nat s 0 (c := c) (t := t) (by rw [hl]; rfl); rw [← this]; exact bt_at s 0 h
  have h0 : 0 < s.size := by rw [← size_len, hl]; simp
  have hq : ((c.toNat : Int) == 39) = true := by rw [hc39]; rfl
  obtain ⟨n, hn⟩ : ∃ n : Nat, n = min 3 s.size := ⟨_, rfl⟩
  have hns : n ≤ s.size := by omega
  have hcut : (s.extract 0 n).data.toList = (c :: t).take 3 := by
    rw [cut_span s n hns, hn, hl]
    by_cases h : 3 ≤ s.size
    · rw [show min 3 s.size = 3 by omega]
    · rw [show min 3 s.size = s.size by omega, ← size_len, hl, List.take_of_length_le (Nat.le_refl _), List.take_of_length_le (by rw [← hl, size_len]; omega)]
  have hcs : (s.extract 0 n).size < 35184372088832 := by simp; omega
  have HLd := Lib.hid hL
  have Hc := Lib.hid (show isLetter c = false by rw [hc39]; rfl)
  have Hd := Lib.hid (show isDigit c = false by rw [hc39]; rfl)
  have Hcut := Lib.hid hcut
  have Hcs := Lib.hid hcs
  have H39 := Lib.hid hc39
  have Hn := Lib.hid hn
  clear hn hl hL hcut hcs hc39
  by_cases hm : (mean ((c :: t).take 3)).isSome = true
  · have HT : Hid (token (c :: t) = (2, 3)) := Lib.hid (by unfold token; simp only []; rw [if_neg (by rw [Hc.out]; decide), if_neg (by rw [Hd.out]; decide), if_pos H39.out, if_pos hm])
    have Hm := Lib.hid hm
    clear hm
    by_cases h3 : (s.size : Int) < 3
    · obtain rfl : n = s.size := by have := Hn.out; omega
      have Hs3 := Lib.hid (show s.data.toList = (c :: t).take 3 by rw [← Hcut.out, cut_span s _ (Nat.le_refl _), List.take_of_length_le (by rw [size_len]; exact Nat.le_refl _)])
      go_enter Tryd.func17, Tryd.ntmps17
      go_wp2_with (first | (go_at_call 30; (with_reducible refine (letter_c c _ HLd.out).mono ?_); rintro e w' ⟨rfl, ⟨n1, rfl⟩⟩; rw [Hc.out]) | (go_at_call 20; (with_reducible refine (digit_c c _ HLd.out.drewN).mono ?_); rintro e w' ⟨rfl, ⟨n2, rfl⟩⟩; rw [Hd.out]) | (go_at_call 14; (with_reducible refine (mean_yes s _ HLd.out.drewN hs (by rw [Hs3.out]; exact Hm.out)).mono ?_); rintro e w1 ⟨v, rfl, hb⟩))
      go_ret2
      exact ⟨by rw [HT.out]; rfl, (pw_below_drewN (Below.refl _ _) _).trans hb⟩
    · obtain rfl : n = 3 := by have := Hn.out; omega
      go_enter Tryd.func17, Tryd.ntmps17
      go_wp2_with (first | (go_at_call 30; (with_reducible refine (letter_c c _ HLd.out).mono ?_); rintro e w' ⟨rfl, ⟨n1, rfl⟩⟩; rw [Hc.out]) | (go_at_call 20; (with_reducible refine (digit_c c _ HLd.out.drewN).mono ?_); rintro e w' ⟨rfl, ⟨n2, rfl⟩⟩; rw [Hd.out]) | (go_at_call 14; (with_reducible refine (mean_yes (s.extract 0 3) _ HLd.out.drewN Hcs.out (by rw [Hcut.out]; exact Hm.out)).mono ?_); rintro e w1 ⟨v, rfl, hb⟩))
      go_ret2
      exact ⟨by rw [HT.out]; rfl, (pw_below_drewN (Below.refl _ _) _).trans hb⟩
  · have HT : Hid (token (c :: t) = (0, 0)) := Lib.hid (by unfold token; simp only []; rw [if_neg (by rw [Hc.out]; decide), if_neg (by rw [Hd.out]; decide), if_pos H39.out, if_neg hm])
    have Hm := Lib.hid hm
    clear hm
    by_cases h3 : (s.size : Int) < 3
    · obtain rfl : n = s.size := by have := Hn.out; omega
      have Hs3 := Lib.hid (show s.data.toList = (c :: t).take 3 by rw [← Hcut.out, cut_span s _ (Nat.le_refl _), List.take_of_length_le (by rw [size_len]; exact Nat.le_refl _)])
      go_enter Tryd.func17, Tryd.ntmps17
      go_wp2_with (first | (go_at_call 30; (with_reducible refine (letter_c c _ HLd.out).mono ?_); rintro e w' ⟨rfl, ⟨n1, rfl⟩⟩; rw [Hc.out]) | (go_at_call 20; (with_reducible refine (digit_c c _ HLd.out.drewN).mono ?_); rintro e w' ⟨rfl, ⟨n2, rfl⟩⟩; rw [Hd.out]) | (go_at_call 14; (with_reducible refine (mean_no s _ HLd.out.drewN hs (by rw [Hs3.out]; exact Hm.out)).mono ?_); rintro e w1 ⟨rfl, hb⟩))
      go_ret2
      exact ⟨by rw [HT.out]; rfl, (pw_below_drewN (Below.refl _ _) _).trans hb⟩
    · obtain rfl : n = 3 := by have := Hn.out; omega
      go_enter Tryd.func17, Tryd.ntmps17
      go_wp2_with (first | (go_at_call 30; (with_reducible refine (letter_c c _ HLd.out).mono ?_); rintro e w' ⟨rfl, ⟨n1, rfl⟩⟩; rw [Hc.out]) | (go_at_call 20; (with_reducible refine (digit_c c _ HLd.out.drewN).mono ?_); rintro e w' ⟨rfl, ⟨n2, rfl⟩⟩; rw [Hd.out]) | (go_at_call 14; (with_reducible refine (mean_no (s.extract 0 3) _ HLd.out.drewN Hcs.out (by rw [Hcut.out]; exact Hm.out)).mono ?_); rintro e w1 ⟨rfl, hb⟩))
      go_ret2
      exact ⟨by rw [HT.out]; rfl, (pw_below_drewN (Below.refl _ _) _).trans hb⟩

theorem ones_idx (c : UInt8) : (0 ≤ Lib.indexByte ones ((c.toNat : Int)).toNat.toUInt8) ↔ c ∈ ones := by
  have : ((c.toNat : Int)).toNat.toUInt8 = c := by simp
  rw [this]; exact indexByte_mem
theorem ones_yes (c : UInt8) (w : World) (h : c ∈ ones) : Calls Tryd.prog 27 #[.string ⟨#[43, 45, 42, 47, 37, 38, 124, 94, 126, 33, 60, 62, 61, 40, 41, 123, 125, 91, 93, 59, 44, 46]⟩, .int .u8 (c.toNat : Int)] w fun e w' => ∃ n : Int, 0 ≤ n ∧ e = .returned (.int .i64 n) ∧ w' = w :=
  (Tryd.strings_IndexByte _ _ w).mono fun e w' ⟨he, hw⟩ => ⟨_, (ones_idx c).2 h, he, hw⟩
theorem ones_no (c : UInt8) (w : World) (h : ¬ c ∈ ones) : Calls Tryd.prog 27 #[.string ⟨#[43, 45, 42, 47, 37, 38, 124, 94, 126, 33, 60, 62, 61, 40, 41, 123, 125, 91, 93, 59, 44, 46]⟩, .int .u8 (c.toNat : Int)] w fun e w' => ∃ n : Int, n < 0 ∧ e = .returned (.int .i64 n) ∧ w' = w :=
  (Tryd.strings_IndexByte _ _ w).mono fun e w' ⟨he, hw⟩ => ⟨_, by have := mt (ones_idx c).1 h; exact Int.not_le.1 this, he, hw⟩

set_option maxHeartbeats 4000000 in
set_option maxRecDepth 100000 in
theorem token_last (s : ByteArray) (c : UInt8) (w : World) (hL : Laid w) (hs : s.size < 35184372088832) (hl : s.data.toList = [c]) (hc : ¬ isLetter c = true) (hd : ¬ isDigit c = true) (h39 : c ≠ 39) :
    Calls Tryd.prog 17 #[.string s] w fun e w' => e = .returned (.tuple #[.int .i64 ((token [c]).1 : Int), .int .i64 ((token [c]).2 : Int)]) ∧ Below w.heap.size w w' := by
  have hi : ∀ h : 0 < s.size, (((s[0]'h).toNat : Int)) = (c.toNat : Int) := by
    intro h; have := bt_nat s 0 (c := c) (t := []) (by rw [hl]; rfl); rw [← this]; exact bt_at s 0 h
  have h1 : s.size = 1 := by rw [← size_len, hl]; rfl
  have h0 : 0 < s.size := by omega
  have h2 : decide ((1 : Int) < (s.size : Int)) = false := decide_eq_false (by omega)
  have h2' : decide (1 < s.size) = false := decide_eq_false (by omega)
  have hq : ((c.toNat : Int) == 39) = false := by rw [beq_eq_false_iff_ne]; intro e; exact h39 ((nat_eq (b := 39)).1 e)
  have HLd := Lib.hid hL
  have Hc := Lib.hid (Bool.eq_false_iff.2 hc)
  have Hd := Lib.hid (Bool.eq_false_iff.2 hd)
  have H39 := Lib.hid h39
  clear h1 hl hL hc hd h39
  by_cases ho : c ∈ ones
  · have HT : Hid (token [c] = (3, 1)) := Lib.hid (by unfold token; simp only []; rw [if_neg (by rw [Hc.out]; decide), if_neg (by rw [Hd.out]; decide), if_neg H39.out, if_neg (by decide), if_pos ho])
    have Ho := Lib.hid ho
    clear ho
    go_enter Tryd.func17, Tryd.ntmps17
    go_wp2_with (first | (go_at_call 30; (with_reducible refine (letter_c c _ HLd.out).mono ?_); rintro e w' ⟨rfl, ⟨n1, rfl⟩⟩; rw [Hc.out]) | (go_at_call 20; (with_reducible refine (digit_c c _ HLd.out.drewN).mono ?_); rintro e w' ⟨rfl, ⟨n2, rfl⟩⟩; rw [Hd.out]))
    go_quiet (fail)
    all_goals go_wp2_with (go_at_call 27; (with_reducible refine (ones_yes c _ Ho.out).mono ?_); rintro e w' ⟨n, hn, rfl, rfl⟩)
    all_goals go_ret2
    all_goals exact ⟨by rw [HT.out]; rfl, by repeat (first | exact Below.refl _ _ | apply below_alloc | apply pw_below_drewN | apply below_drew)⟩
  · have HT : Hid (token [c] = (0, 0)) := Lib.hid (by unfold token; simp only []; rw [if_neg (by rw [Hc.out]; decide), if_neg (by rw [Hd.out]; decide), if_neg H39.out, if_neg (by decide), if_neg ho])
    have Ho := Lib.hid ho
    clear ho
    go_enter Tryd.func17, Tryd.ntmps17
    go_wp2_with (first | (go_at_call 30; (with_reducible refine (letter_c c _ HLd.out).mono ?_); rintro e w' ⟨rfl, ⟨n1, rfl⟩⟩; rw [Hc.out]) | (go_at_call 20; (with_reducible refine (digit_c c _ HLd.out.drewN).mono ?_); rintro e w' ⟨rfl, ⟨n2, rfl⟩⟩; rw [Hd.out]))
    go_quiet (fail)
    all_goals go_wp2_with (go_at_call 27; (with_reducible refine (ones_no c _ Ho.out).mono ?_); rintro e w' ⟨n, hn, rfl, rfl⟩)
    all_goals go_ret2
    all_goals exact ⟨by rw [HT.out]; rfl, by repeat (first | exact Below.refl _ _ | apply below_alloc | apply pw_below_drewN | apply below_drew)⟩
end Go.Proofs.YtjegaejdphmdgaaDoor.Print
