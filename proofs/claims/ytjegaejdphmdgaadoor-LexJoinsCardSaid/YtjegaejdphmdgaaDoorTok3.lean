/-
  lex.token, where a second byte follows: a sign of two bytes, or of one.
-/
import Derived.Test.YtjegaejdphmdgaaDoorTok2
namespace Go.Proofs.YtjegaejdphmdgaaDoor.Print
open Go.RowKit Go.Lib Go.Maps Go.Proofs.YtjegaejdphmdgaaDoorW.PrintWords Go.Proofs.YtjegaejdphmdgaaDoorW.PrintMore Go.Proofs.YtjegaejdphmdgaaDoor.LexP
set_option linter.unusedVariables false
theorem signs_at (w : World) (n : Nat) : Calls Tryd.prog 34 #[] (w.drewN n) fun e w' => e = .returned (.map (some w.heap.size)) ∧ Below w.heap.size w w' ∧ HasSigns w.heap.size w' :=
  (signs_any (w.drewN n)).mono fun e w' ⟨he, hb, hS⟩ => ⟨he, (pw_below_drewN (Below.refl _ _) n).trans hb, hS⟩

theorem signs_dr (w : World) : Calls Tryd.prog 34 #[] w.drew fun e w' => e = .returned (.map (some w.heap.size)) ∧ Below w.heap.size w w' ∧ HasSigns w.heap.size w' :=
  (signs_any w.drew).mono fun e w' ⟨he, hb, hS⟩ => ⟨he, (below_drew (Below.refl _ _)).trans hb, hS⟩
set_option maxHeartbeats 4000000 in
set_option maxRecDepth 100000 in
theorem token_two (s : ByteArray) (c d : UInt8) (t : List UInt8) (w : World) (hL : Laid w) (hs : s.size < 35184372088832) (hl : s.data.toList = c :: d :: t) (hc : ¬ isLetter c = true) (hd : ¬ isDigit c = true) (h39 : c ≠ 39) :
    Calls Tryd.prog 17 #[.string s] w fun e w' => e = .returned (.tuple #[.int .i64 ((token (c :: d :: t)).1 : Int), .int .i64 ((token (c :: d :: t)).2 : Int)]) ∧ Below w.heap.size w w' := by
  have hi : ∀ h : 0 < s.size, (((s[0]'h).toNat : Int)) = (c.toNat : Int) := by
    intro h; have := bt_nat s 0 (c := c) (t := d :: t) (by rw [hl]; rfl); rw [← this]; exact bt_at s 0 h
  have hi1 : ∀ h : 1 < s.size, (((s[1]'h).toNat : Int)) = (d.toNat : Int) := by
    intro h; have := bt_nat s 1 (c := d) (t := t) (by rw [hl]; rfl); rw [← this]; exact bt_at s 1 h
  have h0 : 0 < s.size := by rw [← size_len, hl]; simp
  have h1 : 1 < s.size := by rw [← size_len, hl]; simp
  have h2 : decide ((1 : Int) < (s.size : Int)) = true := decide_eq_true (by omega)
  have h2' : decide (1 < s.size) = true := decide_eq_true h1
  have hq : ((c.toNat : Int) == 39) = false := by rw [beq_eq_false_iff_ne]; intro e; exact h39 ((nat_eq (b := 39)).1 e)
  have HLd := Lib.hid hL
  have Hc := Lib.hid (Bool.eq_false_iff.2 hc)
  have Hd := Lib.hid (Bool.eq_false_iff.2 hd)
  have H39 := Lib.hid h39
  clear hl hL hc hd h39
  by_cases ht : (c, d) ∈ twos
  · have HT : Hid (token (c :: d :: t) = (3, 2)) := Lib.hid (by unfold token; simp only []; rw [if_neg (by rw [Hc.out]; decide), if_neg (by rw [Hd.out]; decide), if_neg H39.out, if_pos (decide_eq_true ht)])
    have Ht := Lib.hid ht
    clear ht
    go_enter Tryd.func17, Tryd.ntmps17
    go_wp2_with (first | (go_at_call 30; (with_reducible refine (letter_c c _ HLd.out).mono ?_); rintro e w' ⟨rfl, ⟨n1, rfl⟩⟩; rw [Hc.out]) | (go_at_call 20; (with_reducible refine (digit_c c _ HLd.out.drewN).mono ?_); rintro e w' ⟨rfl, ⟨n2, rfl⟩⟩; rw [Hd.out]))
    go_region_with (go_at_call 34; (with_reducible refine (signs_at w _).mono ?_); rintro e w1 ⟨rfl, hb, hS⟩; have hlk := sign_lookup hS c d; rw [if_pos Ht.out] at hlk)
    all_goals clear hlk
    all_goals go_wp2
    all_goals go_region_with (go_at_call 34; (with_reducible refine (signs_dr w1).mono ?_); rintro e w2 ⟨rfl, hb2, hS2⟩; have hlk := sign_lookup hS2 c d; rw [if_pos Ht.out] at hlk)
    all_goals go_wp2
    all_goals go_ret2
    all_goals exact ⟨by rw [HT.out]; rfl, hb.trans (hb2.mono hb.size)⟩
  · by_cases ho : c ∈ ones
    · have HT : Hid (token (c :: d :: t) = (3, 1)) := Lib.hid (by unfold token; simp only []; rw [if_neg (by rw [Hc.out]; decide), if_neg (by rw [Hd.out]; decide), if_neg H39.out, if_neg (by simpa using ht), if_pos ho])
      have Ht := Lib.hid ht
      have Ho := Lib.hid ho
      clear ht ho
      go_enter Tryd.func17, Tryd.ntmps17
      go_wp2_with (first | (go_at_call 30; (with_reducible refine (letter_c c _ HLd.out).mono ?_); rintro e w' ⟨rfl, ⟨n1, rfl⟩⟩; rw [Hc.out]) | (go_at_call 20; (with_reducible refine (digit_c c _ HLd.out.drewN).mono ?_); rintro e w' ⟨rfl, ⟨n2, rfl⟩⟩; rw [Hd.out]))
      go_region_with (go_at_call 34; (with_reducible refine (signs_at w _).mono ?_); rintro e w1 ⟨rfl, hb, hS⟩; have hlk := sign_lookup hS c d; rw [if_neg Ht.out] at hlk)
      all_goals clear hlk
      all_goals go_wp2_with (go_at_call 27; (with_reducible refine (ones_yes c _ Ho.out).mono ?_); rintro e w' ⟨n, hn, rfl, rfl⟩)
      all_goals go_ret2
      all_goals exact ⟨by rw [HT.out]; rfl, hb⟩
    · have HT : Hid (token (c :: d :: t) = (0, 0)) := Lib.hid (by unfold token; simp only []; rw [if_neg (by rw [Hc.out]; decide), if_neg (by rw [Hd.out]; decide), if_neg H39.out, if_neg (by simpa using ht), if_neg ho])
      have Ht := Lib.hid ht
      have Ho := Lib.hid ho
      clear ht ho
      go_enter Tryd.func17, Tryd.ntmps17
      go_wp2_with (first | (go_at_call 30; (with_reducible refine (letter_c c _ HLd.out).mono ?_); rintro e w' ⟨rfl, ⟨n1, rfl⟩⟩; rw [Hc.out]) | (go_at_call 20; (with_reducible refine (digit_c c _ HLd.out.drewN).mono ?_); rintro e w' ⟨rfl, ⟨n2, rfl⟩⟩; rw [Hd.out]))
      go_region_with (go_at_call 34; (with_reducible refine (signs_at w _).mono ?_); rintro e w1 ⟨rfl, hb, hS⟩; have hlk := sign_lookup hS c d; rw [if_neg Ht.out] at hlk)
      all_goals clear hlk
      all_goals go_wp2_with (go_at_call 27; (with_reducible refine (ones_no c _ Ho.out).mono ?_); rintro e w' ⟨n, hn, rfl, rfl⟩)
      all_goals go_ret2
      all_goals exact ⟨by rw [HT.out]; rfl, hb⟩
end Go.Proofs.YtjegaejdphmdgaaDoor.Print
