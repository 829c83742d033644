/-
  lex.gap: the place behind what stands between tokens, as 'LexP.gap' has it.
-/
import Derived.Test.YtjegaejdphmdgaaDoorGiven
import Derived.Lib.Walk
import Derived.Lib.Hide
import Derived.WalkKit
import Derived.BigCall
import Derived.BigGuard
import Derived.Outline
namespace Go.Proofs.YtjegaejdphmdgaaDoor.Print
open Go.RowKit Go.Lib Go.Proofs.YtjegaejdphmdgaaDoorW.PrintWords Go.Proofs.YtjegaejdphmdgaaDoor.LexP
set_option linter.unusedVariables false

theorem idx_blank (c : UInt8) : Lib.indexByte [32, 9, 13, 10] ((c.toNat : Int)).toNat.toUInt8 = -1 ∧ ¬ isBlank c = true ∨ 0 ≤ Lib.indexByte [32, 9, 13, 10] ((c.toNat : Int)).toNat.toUInt8 ∧ isBlank c = true := by
  have H : ∀ n : Fin 256, Lib.indexByte [32, 9, 13, 10] (((UInt8.ofNat n.val).toNat : Int)).toNat.toUInt8 = -1 ∧ ¬ isBlank (UInt8.ofNat n.val) = true ∨ 0 ≤ Lib.indexByte [32, 9, 13, 10] (((UInt8.ofNat n.val).toNat : Int)).toNat.toUInt8 ∧ isBlank (UInt8.ofNat n.val) = true := by decide +kernel
  have h := H ⟨c.toNat, c.toNat_lt⟩
  rwa [UInt8.ofNat_toNat] at h
theorem blank_yes (c : UInt8) (w : World) (h : isBlank c = true) : Calls Tryd.prog 27 #[.string ⟨#[32, 9, 13, 10]⟩, .int .u8 (c.toNat : Int)] w fun e w' => ∃ n : Int, 0 ≤ n ∧ e = .returned (.int .i64 n) ∧ w = w' := by
  rcases idx_blank c with ⟨_, h'⟩ | ⟨h', _⟩
  · exact absurd h h'
  · exact (Tryd.strings_IndexByte ⟨#[32, 9, 13, 10]⟩ (c.toNat : Int) w).mono fun e w' ⟨he, hw⟩ => ⟨_, h', he, hw.symm⟩
theorem blank_no (c : UInt8) (w : World) (h : ¬ isBlank c = true) : Calls Tryd.prog 27 #[.string ⟨#[32, 9, 13, 10]⟩, .int .u8 (c.toNat : Int)] w fun e w' => e = .returned (.int .i64 (-1)) ∧ w = w' := by
  rcases idx_blank c with ⟨h', _⟩ | ⟨_, h'⟩
  · exact (Tryd.strings_IndexByte ⟨#[32, 9, 13, 10]⟩ (c.toNat : Int) w).mono fun e w' ⟨he, hw⟩ => ⟨by rw [he]; exact congrArg (fun x => Ending.returned (.int .i64 x)) h', hw.symm⟩
  · exact absurd h' h
/-- A cut's bytes. -/
theorem cut_data (s : ByteArray) (k : Nat) : (s.extract k s.size).data.toList = s.data.toList.drop k := by
  rw [Lib.extract_data, List.take_of_length_le (by rw [List.length_drop, Lib.size_eq]; omega)]
theorem size_len (s : ByteArray) : s.data.toList.length = s.size := (Lib.size_eq s).symm

theorem pre_yes (s : ByteArray) (k : Nat) (w : World) {p : ByteArray} (h : Lib.hasPrefix (s.extract k s.size).data.toList p.data.toList = true) : Calls Tryd.prog 28 #[.string (s.extract k s.size), .string p] w fun e w' => e = .returned (.bool true) ∧ w = w' :=
  (Tryd.strings_HasPrefix _ _ w).mono fun e w' ⟨he, hw⟩ => ⟨by rw [he, h], hw.symm⟩
theorem pre_no (s : ByteArray) (k : Nat) (w : World) {p : ByteArray} (h : ¬ Lib.hasPrefix (s.extract k s.size).data.toList p.data.toList = true) : Calls Tryd.prog 28 #[.string (s.extract k s.size), .string p] w fun e w' => e = .returned (.bool false) ∧ w = w' :=
  (Tryd.strings_HasPrefix _ _ w).mono fun e w' ⟨he, hw⟩ => ⟨by rw [he, Bool.eq_false_iff.2 h], hw.symm⟩
theorem nl_no (s : ByteArray) (k : Nat) (w : World) (h : Lib.indexByte (s.extract k s.size).data.toList 10 < 0) : Calls Tryd.prog 27 #[.string (s.extract k s.size), .int .u8 10] w fun e w' => ∃ n : Int, n < 0 ∧ e = .returned (.int .i64 n) ∧ w = w' :=
  (Tryd.strings_IndexByte _ 10 w).mono fun e w' ⟨he, hw⟩ => ⟨_, h, he, hw.symm⟩
theorem nl_yes (s : ByteArray) (k m : Nat) (w : World) (h : Lib.indexByte (s.extract k s.size).data.toList 10 = m) : Calls Tryd.prog 27 #[.string (s.extract k s.size), .int .u8 10] w fun e w' => e = .returned (.int .i64 (m : Int)) ∧ w = w' :=
  (Tryd.strings_IndexByte _ 10 w).mono fun e w' ⟨he, hw⟩ => ⟨by rw [he]; exact congrArg (fun x => Ending.returned (.int .i64 x)) h, hw.symm⟩
theorem idx_no (s : ByteArray) (k : Nat) (w : World) (hL : Laid w) (hs : s.size - k < 4294967281) (h : Lib.index ((s.extract k s.size).extract 2 (s.size - k)).data.toList [42, 47] < 0) : Calls Tryd.prog 29 #[.string ((s.extract k s.size).extract 2 (s.size - k)), .string ⟨#[42, 47]⟩] w fun e w' => ∃ n : Int, n < 0 ∧ e = .returned (.int .i64 n) ∧ w = w' := by
  obtain ⟨m, hm⟩ := hL.maxLen
  exact (Tryd.strings_Index _ _ m w (by simp; omega) hm).mono fun e w' ⟨he, hw⟩ => ⟨_, h, he, hw.symm⟩
theorem idx_yes (s : ByteArray) (k n : Nat) (w : World) (hL : Laid w) (hs : s.size - k < 4294967281) (h : Lib.index ((s.extract k s.size).extract 2 (s.size - k)).data.toList [42, 47] = n) : Calls Tryd.prog 29 #[.string ((s.extract k s.size).extract 2 (s.size - k)), .string ⟨#[42, 47]⟩] w fun e w' => e = .returned (.int .i64 (n : Int)) ∧ w = w' := by
  obtain ⟨m, hm⟩ := hL.maxLen
  exact (Tryd.strings_Index _ _ m w (by simp; omega) hm).mono fun e w' ⟨he, hw⟩ => ⟨by rw [he]; exact congrArg (fun x => Ending.returned (.int .i64 x)) h, hw.symm⟩
theorem indexByte_lt {l : List UInt8} {c : UInt8} (h : 0 ≤ Lib.indexByte l c) : Lib.indexByte l c < l.length := by
  induction l with
  | nil => simp [Lib.indexByte] at h
  | cons b l ih =>
    unfold Lib.indexByte at h ⊢
    split
    · simp
    · rename_i h1
      rw [if_neg h1] at h
      split
      · simp; omega
      · rename_i h2
        rw [if_neg h2] at h
        have := Lib.indexByte_ge l c
        have : Lib.indexByte l c ≠ -1 := fun e => h2 (by rw [e]; rfl)
        have := ih (by omega)
        simp only [List.length_cons]; omega
theorem prefix_len {l p : List UInt8} (h : Lib.hasPrefix l p = true) : p.length ≤ l.length := by
  unfold Lib.hasPrefix at h
  exact (List.isPrefixOf_iff_prefix.1 h).length_le
set_option maxHeartbeats 2000000 in
set_option maxRecDepth 100000 in
theorem gap_any (s : ByteArray) (at0 : Nat) (w : World) (hL : Laid w) (hs : s.size < 4294967281) (h0 : at0 ≤ s.size) :
    Calls Tryd.prog 16 #[.string s, .int .i64 at0] w fun e w' => e = .returned (.tuple #[.int .i64 ((at0 : Int) + ((gap (s.data.toList.drop at0)).1 : Int)), .bool (gap (s.data.toList.drop at0)).2]) ∧ w = w' := by
  obtain ⟨R, hR⟩ : ∃ R : Int, R = (at0 : Int) + ((gap (s.data.toList.drop at0)).1 : Int) := ⟨_, rfl⟩
  obtain ⟨B, hB⟩ : ∃ B : Bool, B = (gap (s.data.toList.drop at0)).2 := ⟨_, rfl⟩
  rw [← hR, ← hB]
  have HR := Lib.hid hR; have HB := Lib.hid hB; clear hR hB
  have HLd := Lib.hid hL; clear hL
  go_enter Tryd.func16, Tryd.ntmps16
  go_wp2
  go_loop [1] (fun va => ∃ k : Nat, k ≤ s.size ∧ va = .int .i64 k ∧ Hid (R = (k : Int) + ((gap (s.data.toList.drop k)).1 : Int) ∧ B = (gap (s.data.toList.drop k)).2)) (fun va => s.size - (intOf va).toNat)
  case atStart => exact ⟨at0, h0, rfl, Lib.hid ⟨HR.out, HB.out⟩⟩
  case round =>
    obtain ⟨k, hk, rfl, hh⟩ := hrel
    clear HR HB h0
    by_cases hlt : k < s.size
    · have hk' : k < s.data.size := hlt
      obtain ⟨c, hi, hdrop⟩ : ∃ c : UInt8, (∀ h : 0 < (s.extract k s.size).size, (((s.extract k s.size)[0]'h).toNat : Int) = (c.toNat : Int)) ∧ s.data.toList.drop k = c :: s.data.toList.drop (k + 1) := by
        refine ⟨s.data[k]'hk', fun h => ?_, ?_⟩
        · rw [ByteArray.getElem_extract]; simp [ByteArray.getElem_eq_getElem_data]
        · rw [List.drop_eq_getElem_cons (by simpa using hk')]; simp
      have hcut := cut_data s k
      rw [hdrop] at hcut
      have hlen : (c :: s.data.toList.drop (k + 1)).length = s.size - k := by rw [← hdrop, List.length_drop, size_len]
      have hroom : 0 < s.size - k := by omega
      have hg := hh.out
      clear hh
      have HD := Lib.hid hdrop
      rw [hdrop] at hg
      clear hdrop
      by_cases hb : isBlank c = true
      · rw [gap_blank hb] at hg
        have HG := Lib.hid hg
        clear hg hcut hlen
        have Hb := Lib.hid hb
        clear hb
        go_wp2_with (go_at_call 27; (with_reducible refine (blank_yes c _ Hb.out).mono ?_); rintro e w' ⟨n, hn, rfl, rfl⟩)
        go_round
        case rel => exact ⟨k + 1, by omega, by go_num, Lib.hid ⟨by rw [HG.out.1]; omega, HG.out.2⟩⟩
        case measure => simp [intOf]; omega
      · by_cases hp : Lib.hasPrefix (c :: s.data.toList.drop (k + 1)) [47, 47] = true
        · by_cases hn : Lib.indexByte (c :: s.data.toList.drop (k + 1)) 10 < 0
          · rw [gap_last hb hp hn] at hg
            have HG : Hid (R = (s.size : Int) ∧ B = true) := Lib.hid ⟨by rw [hg.1]; show (k : Int) + ((c :: s.data.toList.drop (k + 1)).length : Nat) = _; rw [hlen]; omega, hg.2⟩
            have HC := Lib.hid hcut
            have Hb := Lib.hid hb
            have Hp := Lib.hid hp
            have Hn := Lib.hid hn
            clear hg hcut hb hp hn hlen
            go_wp2_with (first | (go_at_call 27; (with_reducible refine (blank_no c _ Hb.out).mono ?_); rintro e w' ⟨rfl, rfl⟩) | (go_at_call 28; (with_reducible refine (pre_yes s k _ (by rw [HC.out]; exact Hp.out)).mono ?_); rintro e w' ⟨rfl, rfl⟩) | (go_at_call 27; (with_reducible refine (nl_no s k _ (by rw [HC.out]; exact Hn.out)).mono ?_); rintro e w' ⟨n, hn, rfl, rfl⟩))
            go_round
            case rel => exact ⟨s.size, by omega, by go_num, Lib.hid ⟨by rw [HG.out.1, List.drop_eq_nil_of_le (by rw [size_len]; exact Nat.le_refl _)]; simp [gap_nil], by rw [HG.out.2, List.drop_eq_nil_of_le (by rw [size_len]; exact Nat.le_refl _)]; rfl⟩⟩
            case measure => simp [intOf]; omega
          · obtain ⟨m, hm⟩ : ∃ m : Nat, Lib.indexByte (c :: s.data.toList.drop (k + 1)) 10 = (m : Int) := ⟨(Lib.indexByte (c :: s.data.toList.drop (k + 1)) 10).toNat, by omega⟩
            have hm0 := indexByte_pos (c := c) (d := 10) (t := s.data.toList.drop (k + 1)) (by have := prefix_head hp; subst this; decide) (by omega)
            have hm1 := indexByte_lt (l := c :: s.data.toList.drop (k + 1)) (c := 10) (by omega)
            rw [gap_line hb hp (by omega), hm] at hg
            rw [hm] at hm0 hm1
            rw [hlen] at hm1
            have hdd : (c :: s.data.toList.drop (k + 1)).drop m = s.data.toList.drop (k + m) := by rw [← HD.out, List.drop_drop]
            simp only [Int.toNat_natCast] at hg hm0
            rw [hdd] at hg
            have HG := Lib.hid hg
            have HC := Lib.hid hcut
            have Hb := Lib.hid hb
            have Hp := Lib.hid hp
            have Hm := Lib.hid hm
            have hm2 : m < s.size - k := by omega
            have hm3 : ¬ (m : Int) < 0 := by omega
            clear hg hcut hb hp hm hn hdd hlen hm1
            go_wp2_with (first | (go_at_call 27; (with_reducible refine (blank_no c _ Hb.out).mono ?_); rintro e w' ⟨rfl, rfl⟩) | (go_at_call 28; (with_reducible refine (pre_yes s k _ (by rw [HC.out]; exact Hp.out)).mono ?_); rintro e w' ⟨rfl, rfl⟩) | (go_at_call 27; (with_reducible refine (nl_yes s k m _ (by rw [HC.out]; exact Hm.out)).mono ?_); rintro e w' ⟨rfl, rfl⟩))
            go_round
            case rel => exact ⟨k + m, by omega, by go_num, Lib.hid ⟨by rw [HG.out.1]; omega, HG.out.2⟩⟩
            case measure => simp [intOf]; omega
        · by_cases hq : Lib.hasPrefix (c :: s.data.toList.drop (k + 1)) [47, 42] = true
          · have h2 : 2 ≤ s.size - k := by
              rw [← hlen]
              exact prefix_len hq
            have hcut2 : ((s.extract k s.size).extract 2 (s.size - k)).data.toList = (c :: s.data.toList.drop (k + 1)).drop 2 := by
              rw [Lib.extract_data, hcut, List.take_of_length_le (by rw [List.length_drop, hlen]; omega)]
            by_cases hn : Lib.index ((c :: s.data.toList.drop (k + 1)).drop 2) [42, 47] < 0
            · rw [gap_open hb hp hq hn] at hg
              have HG := Lib.hid hg
              have HC := Lib.hid hcut
              have HC2 := Lib.hid hcut2
              have Hb := Lib.hid hb
              have Hp := Lib.hid hp
              have Hq := Lib.hid hq
              have Hn := Lib.hid hn
              clear hg hcut hcut2 hb hp hq hn hlen
              go_wp2_with (first | (go_at_call 27; (with_reducible refine (blank_no c _ Hb.out).mono ?_); rintro e w' ⟨rfl, rfl⟩) | (go_at_call 28; (with_reducible refine (pre_no s k _ (by rw [HC.out]; exact Hp.out)).mono ?_); rintro e w' ⟨rfl, rfl⟩) | (go_at_call 28; (with_reducible refine (pre_yes s k _ (by rw [HC.out]; exact Hq.out)).mono ?_); rintro e w' ⟨rfl, rfl⟩) | (go_at_call 29; (with_reducible refine (idx_no s k _ HLd.out (by omega) (by rw [HC2.out]; exact Hn.out)).mono ?_); rintro e w' ⟨n, hn, rfl, rfl⟩))
              go_ret2
              exact ⟨by rw [HG.out.1, HG.out.2]; simp, rfl⟩
            · obtain ⟨m, hm⟩ : ∃ m : Nat, Lib.index ((c :: s.data.toList.drop (k + 1)).drop 2) [42, 47] = (m : Int) := ⟨(Lib.index ((c :: s.data.toList.drop (k + 1)).drop 2) [42, 47]).toNat, by omega⟩
              have hm1 := Lib.index_room ((c :: s.data.toList.drop (k + 1)).drop 2) [42, 47] (by omega)
              rw [gap_remark hb hp hq (by omega), hm] at hg
              rw [hm, List.length_drop, hlen] at hm1
              have hm2 : m + 4 ≤ s.size - k := by simp at hm1; omega
              have hdd : (c :: s.data.toList.drop (k + 1)).drop (m + 4) = s.data.toList.drop (k + (m + 4)) := by rw [← HD.out, List.drop_drop]
              simp only [Int.toNat_natCast] at hg
              rw [hdd] at hg
              have HG := Lib.hid hg
              have HC := Lib.hid hcut
              have HC2 := Lib.hid hcut2
              have Hb := Lib.hid hb
              have Hp := Lib.hid hp
              have Hq := Lib.hid hq
              have Hm := Lib.hid hm
              have hm3 : ¬ (m : Int) < 0 := by omega
              clear hg hcut hcut2 hb hp hq hn hlen hm hdd hm1
              go_wp2_with (first | (go_at_call 27; (with_reducible refine (blank_no c _ Hb.out).mono ?_); rintro e w' ⟨rfl, rfl⟩) | (go_at_call 28; (with_reducible refine (pre_no s k _ (by rw [HC.out]; exact Hp.out)).mono ?_); rintro e w' ⟨rfl, rfl⟩) | (go_at_call 28; (with_reducible refine (pre_yes s k _ (by rw [HC.out]; exact Hq.out)).mono ?_); rintro e w' ⟨rfl, rfl⟩) | (go_at_call 29; (with_reducible refine (idx_yes s k m _ HLd.out (by omega) (by rw [HC2.out]; exact Hm.out)).mono ?_); rintro e w' ⟨rfl, rfl⟩))
              go_round
              case rel => exact ⟨k + (m + 4), by omega, by go_num, Lib.hid ⟨by rw [HG.out.1]; omega, HG.out.2⟩⟩
              case measure => simp [intOf]; omega
          · rw [gap_stop hb hp hq] at hg
            have HG := Lib.hid hg
            have HC := Lib.hid hcut
            have Hb := Lib.hid hb
            have Hp := Lib.hid hp
            have Hq := Lib.hid hq
            clear hg hcut hb hp hq hlen
            go_wp2_with (first | (go_at_call 27; (with_reducible refine (blank_no c _ Hb.out).mono ?_); rintro e w' ⟨rfl, rfl⟩) | (go_at_call 28; (with_reducible refine (pre_no s k _ (by rw [HC.out]; exact Hp.out)).mono ?_); rintro e w' ⟨rfl, rfl⟩) | (go_at_call 28; (with_reducible refine (pre_no s k _ (by rw [HC.out]; exact Hq.out)).mono ?_); rintro e w' ⟨rfl, rfl⟩))
            go_ret2
            exact ⟨by rw [HG.out.1, HG.out.2]; simp, rfl⟩
    · obtain rfl : k = s.size := by omega
      have hg := hh.out
      rw [List.drop_eq_nil_of_le (by rw [size_len]; omega)] at hg
      have HG := Lib.hid hg
      clear hh hg
      go_wp2
      go_ret2
      exact ⟨by rw [HG.out.1, HG.out.2]; simp [gap_nil], rfl⟩
end Go.Proofs.YtjegaejdphmdgaaDoor.Print
