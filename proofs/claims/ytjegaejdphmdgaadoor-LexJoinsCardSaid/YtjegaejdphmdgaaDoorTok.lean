/-
  lex.token: the token that a text begins with, as 'LexP.token' has it.
-/
import Derived.Test.YtjegaejdphmdgaaDoorSigns
import Derived.Test.YtjegaejdphmdgaaDoorPl
import Derived.Lib.SlicesS
import Derived.RegionTactic
import Derived.BigRegion
import Derived.Deep.RegionWith
import Derived.Maps.OwnOps
namespace Go.Proofs.YtjegaejdphmdgaaDoor.Print
open Go.RowKit Go.Lib Go.Maps Go.Proofs.YtjegaejdphmdgaaDoorW.PrintWords Go.Proofs.YtjegaejdphmdgaaDoor.LexP
set_option linter.unusedVariables false

def wordText : ByteArray := ⟨#[99, 104, 97, 114, 32, 105, 110, 116, 32, 108, 111, 110, 103, 32, 118, 111, 105, 100, 32, 115, 116, 114, 117, 99, 116, 32, 105, 102, 32, 101, 108, 115, 101, 32, 119, 104, 105, 108, 101, 32, 114, 101, 116, 117, 114, 110, 32, 98, 114, 101, 97, 107, 32, 99, 111, 110, 116, 105, 110, 117, 101, 32, 115, 105, 122, 101, 111, 102, 32, 109, 97, 108, 108, 111, 99]⟩
theorem fields_words : Lib.fields wordText.data.toList = words := by decide +kernel
theorem ascii_words : ∀ (j : Nat) (b : UInt8), wordText.data.toList[j]? = some b → b.toNat < 128 := by
  intro j b h
  have H : wordText.data.toList.all (fun b => b.toNat < 128) = true := by decide +kernel
  have := List.all_eq_true.1 H b (List.mem_of_getElem? h)
  simpa using this
def wordCells : Array Value := (words.map fun l => Value.string ⟨l.toArray⟩).toArray
theorem words_any (w : World) (hL : Laid w) :
    Calls Tryd.prog 33 #[] w fun e w' => e = .returned (.slice (some ⟨w.heap.size, 0, none⟩) 13 13) ∧ w' = w.alloc (.cells wordCells 9) := by
  have hf : Calls Tryd.prog 50 #[.string wordText] w fun e w' => e = .returned (.slice (some ⟨w.heap.size, 0, none⟩) 13 13) ∧ w' = w.alloc (.cells wordCells 9) := by
    refine (Tryd.strings_Fields wordText w (by decide) ascii_words hL.ascii).mono fun e w' ⟨he, hw⟩ => ?_
    rw [fields_words] at he hw
    exact ⟨he, hw⟩
  unfold wordText at hf
  go_enter Tryd.func33, Tryd.ntmps33
  go_wp2_with (go_at_call 50; refine hf.mono ?_; rintro e w' ⟨rfl, rfl⟩)
  go_ret
  exact ⟨rfl, rfl⟩
theorem words_cell (b : Nat) (w : World) (hb : w.heap[b]? = some (.cells wordCells 9 (0, 0))) (j : Nat) (hj : j < 13) :
    w.cell? ⟨b, j, none⟩ = some (.string ((words.map fun l => (⟨l.toArray⟩ : ByteArray)).getD j ByteArray.empty)) := by
  have H : ∀ j : Fin 13, wordCells[j.val]? = some (.string ((words.map fun l => (⟨l.toArray⟩ : ByteArray)).getD j.val ByteArray.empty)) := by
    intro j
    match j with
    | 0 => rfl | 1 => rfl | 2 => rfl | 3 => rfl | 4 => rfl | 5 => rfl | 6 => rfl | 7 => rfl | 8 => rfl | 9 => rfl | 10 => rfl | 11 => rfl | 12 => rfl
  have h := H ⟨j, hj⟩
  simp only [World.cell?, hb]
  exact h
theorem contains_any (b : Nat) (x : ByteArray) (w : World) (hb : w.heap[b]? = some (.cells wordCells 9 (0, 0))) :
    Calls Tryd.prog 32 #[.slice (some ⟨b, 0, none⟩) 13 13, .string x] w fun e w' => e = .returned (.bool (decide (x.data.toList ∈ words))) ∧ w' = w := by
  refine (Tryd.slices_Contains_string b 0 13 13 (words.map fun l => (⟨l.toArray⟩ : ByteArray)) x w (by decide) (by decide) (fun j hj => ?_)).mono fun e w' ⟨he, hw⟩ => ⟨?_, hw⟩
  · rw [Nat.zero_add]; exact words_cell b w hb j (by simpa [words] using hj)
  · rw [he]
    congr 2
    rw [List.take_of_length_le (by decide), Bool.eq_iff_iff, Lib.containsS_iff, decide_eq_true_eq, List.mem_map]
    constructor
    · rintro ⟨l, hl, rfl⟩; simpa using hl
    · intro h; exact ⟨_, h, by obtain ⟨⟨l⟩⟩ := x; rfl⟩
/-! ### the callees, in the plain words -/
theorem letter_c (c : UInt8) (w : World) (hL : Laid w) : Calls Tryd.prog 30 #[.int .u8 (c.toNat : Int)] w fun e w' => e = .returned (.bool (isLetter c)) ∧ Drawn0 w w' := lex_letter.calls _ _ w hL (lex_letter_plain c)
theorem digit_c (c : UInt8) (w : World) (hL : Laid w) : Calls Tryd.prog 20 #[.int .u8 (c.toNat : Int)] w fun e w' => e = .returned (.bool (isDigit c)) ∧ Drawn0 w w' := lex_digit.calls _ _ w hL (lex_digit_plain c)
theorem span_c (s : ByteArray) (w : World) (hL : Laid w) (hs : s.size ≤ 140737488351232) : Calls Tryd.prog 31 #[.string s] w fun e w' => e = .returned (.int .i64 ((span s.data.toList : Nat) : Int)) ∧ Drawn0 w w' := lex_span.calls _ s _ w hL (span_plain s hs)
theorem mean_c (s : ByteArray) (w : World) (hL : Laid w) (hs : s.size < 35184372088832) : Calls Tryd.prog 14 #[.string s] w fun e w' => e = .returned (.tuple #[.int .u64 (meanRes (mean s.data.toList)).1, .int .i64 (meanRes (mean s.data.toList)).2]) ∧ Below w.heap.size w w' :=
  lex_Mean.calls 2 s _ _ w hL (lex_Mean_plain s hs)
theorem mean_yes (s : ByteArray) (w : World) (hL : Laid w) (hs : s.size < 35184372088832) (h : (mean s.data.toList).isSome = true) : Calls Tryd.prog 14 #[.string s] w fun e w' => ∃ v, e = .returned (.tuple #[.int .u64 v, .int .i64 0]) ∧ Below w.heap.size w w' := by
  refine (mean_c s w hL hs).mono fun e w' ⟨he, hb⟩ => ?_
  cases hm : mean s.data.toList with
  | none => rw [hm] at h; cases h
  | some n => rw [hm] at he; exact ⟨_, he, hb⟩
theorem mean_no (s : ByteArray) (w : World) (hL : Laid w) (hs : s.size < 35184372088832) (h : ¬ (mean s.data.toList).isSome = true) : Calls Tryd.prog 14 #[.string s] w fun e w' => e = .returned (.tuple #[.int .u64 0, .int .i64 10]) ∧ Below w.heap.size w w' := by
  refine (mean_c s w hL hs).mono fun e w' ⟨he, hb⟩ => ?_
  cases hm : mean s.data.toList with
  | none => rw [hm] at he; exact ⟨he, hb⟩
  | some n => rw [hm] at h; exact absurd rfl h
theorem span_le (l : List UInt8) : span l ≤ l.length := by unfold span; exact (List.takeWhile_sublist _).length_le
theorem take_span (l : List UInt8) : l.take (span l) = l.takeWhile isWordB := by
  unfold span
  exact List.prefix_iff_eq_take.1 (List.takeWhile_prefix _) |>.symm
theorem cut_span (s : ByteArray) (n : Nat) (h : n ≤ s.size) : (s.extract 0 n).data.toList = s.data.toList.take n := by
  rw [Lib.extract_data]; simp

theorem words_block (w : World) (n : Nat) : ((w.drewN n).alloc (.cells wordCells 9)).heap[w.heap.size]? = some (.cells wordCells 9 (0, 0)) := (MapKept.heap_alloc (w.drewN n) (.cells wordCells 9)).1
theorem contains_yes (b : Nat) (x : ByteArray) (w : World) (hb : w.heap[b]? = some (.cells wordCells 9 (0, 0))) (h : x.data.toList ∈ words) : Calls Tryd.prog 32 #[.slice (some ⟨b, 0, none⟩) 13 13, .string x] w fun e w' => e = .returned (.bool true) ∧ w' = w :=
  (contains_any b x w hb).mono fun e w' ⟨he, hw⟩ => ⟨by rw [he, decide_eq_true h], hw⟩
theorem contains_no (b : Nat) (x : ByteArray) (w : World) (hb : w.heap[b]? = some (.cells wordCells 9 (0, 0))) (h : ¬ x.data.toList ∈ words) : Calls Tryd.prog 32 #[.slice (some ⟨b, 0, none⟩) 13 13, .string x] w fun e w' => e = .returned (.bool false) ∧ w' = w :=
  (contains_any b x w hb).mono fun e w' ⟨he, hw⟩ => ⟨by rw [he, decide_eq_false h], hw⟩
set_option maxHeartbeats 4000000 in
set_option maxRecDepth 100000 in
theorem token_letter (s : ByteArray) (c : UInt8) (t : List UInt8) (w : World) (hL : Laid w) (hs : s.size ≤ 140737488351232) (hl : s.data.toList = c :: t) (hc : isLetter c = true) :
    Calls Tryd.prog 17 #[.string s] w fun e w' => e = .returned (.tuple #[.int .i64 ((token (c :: t)).1 : Int), .int .i64 ((token (c :: t)).2 : Int)]) ∧ Below w.heap.size w w' := by
  have hi : ∀ h : 0 < s.size, (((s[0]'h).toNat : Int)) = (c.toNat : Int) := by
    intro h; have := bt_nat s 0 (c := c) (t := t) (by rw [hl]; rfl); rw [← this]; exact bt_at s 0 h
  have h0 : 0 < s.size := by rw [← size_len, hl]; simp
  obtain ⟨n, hn⟩ : ∃ n, n = span s.data.toList := ⟨_, rfl⟩
  have hns : n ≤ s.size := by rw [hn, ← size_len]; exact span_le _
  have hcut : (s.extract 0 n).data.toList = (c :: t).takeWhile isWordB := by rw [cut_span s n hns, hn, take_span, hl]
  have hsp : Hid (span s.data.toList = n) := Lib.hid hn.symm
  have hsp2 : Hid (span (c :: t) = n) := Lib.hid (by rw [hn, hl])
  have HLd := Lib.hid hL
  have Hc := Lib.hid hc
  have Hcut := Lib.hid hcut
  clear hn hl hL hc hcut
  by_cases hw : (c :: t).takeWhile isWordB ∈ words
  · have Hw := Lib.hid hw
    have HT : Hid (token (c :: t) = (4, n)) := Lib.hid (by unfold token; simp only []; rw [if_pos Hc.out, if_pos hw, hsp2.out])
    clear hw
    go_enter Tryd.func17, Tryd.ntmps17
    go_wp2_with (first | (go_at_call 30; (with_reducible refine (letter_c c _ HLd.out).mono ?_); rintro e w' ⟨rfl, ⟨n1, rfl⟩⟩; rw [Hc.out]) | (go_at_call 31; (with_reducible refine (span_c s _ HLd.out.drewN hs).mono ?_); rintro e w' ⟨rfl, ⟨n2, rfl⟩⟩; rw [hsp.out]))
    go_region_with (first | (go_at_call 33; (with_reducible refine (words_any _ HLd.out.drewN).mono ?_); rintro e w' ⟨rfl, rfl⟩) | (go_at_call 32; (with_reducible refine (contains_yes _ _ _ (words_block w _) (by rw [Hcut.out]; exact Hw.out)).mono ?_); rintro e w' ⟨rfl, rfl⟩))
    all_goals go_wp2
    all_goals go_ret2
    all_goals exact ⟨by rw [HT.out]; rfl, by repeat (first | exact Below.refl _ _ | apply below_alloc | apply pw_below_drewN | apply below_drew)⟩
  · have Hw := Lib.hid hw
    clear hw
    by_cases h32 : 32 < n
    · have HT : Hid (token (c :: t) = (0, 0)) := Lib.hid (by unfold token; simp only []; rw [if_pos Hc.out, if_neg Hw.out, hsp2.out, if_pos h32])
      have h32' : (32 : Int) < (n : Int) := by omega
      go_enter Tryd.func17, Tryd.ntmps17
      go_wp2_with (first | (go_at_call 30; (with_reducible refine (letter_c c _ HLd.out).mono ?_); rintro e w' ⟨rfl, ⟨n1, rfl⟩⟩; rw [Hc.out]) | (go_at_call 31; (with_reducible refine (span_c s _ HLd.out.drewN hs).mono ?_); rintro e w' ⟨rfl, ⟨n2, rfl⟩⟩; rw [hsp.out]))
      go_region_with (first | (go_at_call 33; (with_reducible refine (words_any _ HLd.out.drewN).mono ?_); rintro e w' ⟨rfl, rfl⟩) | (go_at_call 32; (with_reducible refine (contains_no _ _ _ (words_block w _) (by rw [Hcut.out]; exact Hw.out)).mono ?_); rintro e w' ⟨rfl, rfl⟩))
      all_goals go_wp2
      all_goals go_ret2
      all_goals exact ⟨by rw [HT.out]; rfl, by repeat (first | exact Below.refl _ _ | apply below_alloc | apply pw_below_drewN | apply below_drew)⟩
    · have HT : Hid (token (c :: t) = (1, n)) := Lib.hid (by unfold token; simp only []; rw [if_pos Hc.out, if_neg Hw.out, hsp2.out, if_neg h32])
      have h32' : ¬ (32 : Int) < (n : Int) := by omega
      go_enter Tryd.func17, Tryd.ntmps17
      go_wp2_with (first | (go_at_call 30; (with_reducible refine (letter_c c _ HLd.out).mono ?_); rintro e w' ⟨rfl, ⟨n1, rfl⟩⟩; rw [Hc.out]) | (go_at_call 31; (with_reducible refine (span_c s _ HLd.out.drewN hs).mono ?_); rintro e w' ⟨rfl, ⟨n2, rfl⟩⟩; rw [hsp.out]))
      go_region_with (first | (go_at_call 33; (with_reducible refine (words_any _ HLd.out.drewN).mono ?_); rintro e w' ⟨rfl, rfl⟩) | (go_at_call 32; (with_reducible refine (contains_no _ _ _ (words_block w _) (by rw [Hcut.out]; exact Hw.out)).mono ?_); rintro e w' ⟨rfl, rfl⟩))
      all_goals go_wp2
      all_goals go_ret2
      all_goals exact ⟨by rw [HT.out]; rfl, by repeat (first | exact Below.refl _ _ | apply below_alloc | apply pw_below_drewN | apply below_drew)⟩

set_option maxHeartbeats 4000000 in
set_option maxRecDepth 100000 in
theorem token_digit (s : ByteArray) (c : UInt8) (t : List UInt8) (w : World) (hL : Laid w) (hs : s.size ≤ 140737488351232) (hs2 : s.size < 35184372088832) (hl : s.data.toList = c :: t) (hc : ¬ isLetter c = true) (hd : isDigit c = true) :
    Calls Tryd.prog 17 #[.string s] w fun e w' => e = .returned (.tuple #[.int .i64 ((token (c :: t)).1 : Int), .int .i64 ((token (c :: t)).2 : Int)]) ∧ Below w.heap.size w w' := by
  have hi : ∀ h : 0 < s.size, (((s[0]'h).toNat : Int)) = (c.toNat : Int) := by
    intro h; have := bt_nat s 0 (c := c) (t := t) (by rw [hl]; rfl); rw [← this]; exact bt_at s 0 h
  have h0 : 0 < s.size := by rw [← size_len, hl]; simp
  obtain ⟨n, hn⟩ : ∃ n, n = span s.data.toList := ⟨_, rfl⟩
  have hns : n ≤ s.size := by rw [hn, ← size_len]; exact span_le _
  have hcut : (s.extract 0 n).data.toList = (c :: t).takeWhile isWordB := by rw [cut_span s n hns, hn, take_span, hl]
  have hcs : (s.extract 0 n).size < 35184372088832 := by simp; omega
  have hsp : Hid (span s.data.toList = n) := Lib.hid hn.symm
  have hsp2 : Hid (span (c :: t) = n) := Lib.hid (by rw [hn, hl])
  have HLd := Lib.hid hL
  have Hc := Lib.hid (Bool.eq_false_iff.2 hc)
  have Hd := Lib.hid hd
  have Hcut := Lib.hid hcut
  have Hcs := Lib.hid hcs
  clear hn hl hL hc hcut hd hcs
  by_cases hm : (mean ((c :: t).takeWhile isWordB)).isSome = true
  · have HT : Hid (token (c :: t) = (2, n)) := Lib.hid (by unfold token; simp only []; rw [if_neg (by rw [Hc.out]; decide), if_pos Hd.out, if_pos hm, hsp2.out])
    have Hm := Lib.hid hm
    clear hm
    go_enter Tryd.func17, Tryd.ntmps17
    go_wp2_with (first | (go_at_call 30; (with_reducible refine (letter_c c _ HLd.out).mono ?_); rintro e w' ⟨rfl, ⟨n1, rfl⟩⟩; rw [Hc.out]) | (go_at_call 20; (with_reducible refine (digit_c c _ HLd.out.drewN).mono ?_); rintro e w' ⟨rfl, ⟨n2, rfl⟩⟩; rw [Hd.out]) | (go_at_call 31; (with_reducible refine (span_c s _ HLd.out.drewN hs).mono ?_); rintro e w' ⟨rfl, ⟨n3, rfl⟩⟩; rw [hsp.out]) | (go_at_call 14; (with_reducible refine (mean_yes (s.extract 0 n) _ HLd.out.drewN Hcs.out (by rw [Hcut.out]; exact Hm.out)).mono ?_); rintro e w1 ⟨v, rfl, hb⟩))
    go_ret2
    exact ⟨by rw [HT.out]; rfl, (pw_below_drewN (Below.refl _ _) _).trans hb⟩
  · have HT : Hid (token (c :: t) = (0, 0)) := Lib.hid (by unfold token; simp only []; rw [if_neg (by rw [Hc.out]; decide), if_pos Hd.out, if_neg hm])
    have Hm := Lib.hid hm
    clear hm
    go_enter Tryd.func17, Tryd.ntmps17
    go_wp2_with (first | (go_at_call 30; (with_reducible refine (letter_c c _ HLd.out).mono ?_); rintro e w' ⟨rfl, ⟨n1, rfl⟩⟩; rw [Hc.out]) | (go_at_call 20; (with_reducible refine (digit_c c _ HLd.out.drewN).mono ?_); rintro e w' ⟨rfl, ⟨n2, rfl⟩⟩; rw [Hd.out]) | (go_at_call 31; (with_reducible refine (span_c s _ HLd.out.drewN hs).mono ?_); rintro e w' ⟨rfl, ⟨n3, rfl⟩⟩; rw [hsp.out]) | (go_at_call 14; (with_reducible refine (mean_no (s.extract 0 n) _ HLd.out.drewN Hcs.out (by rw [Hcut.out]; exact Hm.out)).mono ?_); rintro e w1 ⟨rfl, hb⟩))
    go_ret2
    exact ⟨by rw [HT.out]; rfl, (pw_below_drewN (Below.refl _ _) _).trans hb⟩
end Go.Proofs.YtjegaejdphmdgaaDoor.Print
