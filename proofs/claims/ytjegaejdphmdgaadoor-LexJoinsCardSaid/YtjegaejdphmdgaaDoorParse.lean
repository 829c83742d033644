/-
  strconv.ParseUint(s, 10 | 16, 63) at every string: the number, or an error that is not nil. Turned from the worked contract of the shelf at base 10.
-/
import Derived.Test.YtjegaejdphmdgaaDoorProg
import Derived.Test.YtjegaejdphmdgaaDoorShelf
import Derived.Test.YtjegaejdphmdgaaDoorWWords
import Derived.Lib.AtoiAll
import Derived.Lib.Strings
import Derived.Lib.Walk
import Derived.Lib.ConvBytes
import Derived.Lib.Hide
import Derived.Laws.Strings3
import Derived.Laws.Closers25
import Derived.Laws.Closers25b
import Derived.WalkKit
import Derived.BigCall
import Derived.BigGuard
namespace Go.Proofs.YtjegaejdphmdgaaDoor.LexP
open Go.RowKit Go.Lib

def lowI (x : Int) : Int := Go.bits .or .u8 x 32
/-- A digit's worth in a base, as strconv reads it (letters small or great). -/
def dU (base : Int) (c : UInt8) : Option Int :=
  if 48 ≤ (c.toNat : Int) ∧ (c.toNat : Int) ≤ 57 then some ((c.toNat : Int) - 48)
  else if 97 ≤ lowI (c.toNat : Int) ∧ lowI (c.toNat : Int) ≤ 122 ∧ lowI (c.toNat : Int) - 97 + 10 < base then some (lowI (c.toNat : Int) - 97 + 10) else none
def pU (base : Int) : Int → List UInt8 → NumEnd Int
  | acc, [] => .ok acc
  | acc, c :: l => match dU base c with
    | none => NumEnd.syntax
    | some d => if acc * base + d ≤ 9223372036854775807 then pU base (acc * base + d) l else .range
def uTup : NumEnd Int → Value
  | .ok n => .tuple #[.int .u64 n, .nilIface]
  | NumEnd.syntax => .tuple #[.int .u64 0, .iface 91 (.int .i64 2)]
  | .range => .tuple #[.int .u64 9223372036854775807, .iface 91 (.int .i64 1)]
theorem pU_digit {base acc d : Int} {c : UInt8} {l : List UInt8} (h : dU base c = some d) (h2 : acc * base + d ≤ 9223372036854775807) : pU base acc (c :: l) = pU base (acc * base + d) l := by
  simp only [pU, h, if_pos h2]
theorem pU_over {base acc d : Int} {c : UInt8} {l : List UInt8} (h : dU base c = some d) (h2 : ¬ acc * base + d ≤ 9223372036854775807) : pU base acc (c :: l) = .range := by
  simp only [pU, h, if_neg h2]
theorem pU_none {base acc : Int} {c : UInt8} {l : List UInt8} (h : dU base c = none) : pU base acc (c :: l) = NumEnd.syntax := by
  simp only [pU, h]
theorem dU_digit {base : Int} {c : UInt8} (h0 : 48 ≤ (c.toNat : Int)) (h1 : (c.toNat : Int) ≤ 57) : dU base c = some ((c.toNat : Int) - 48) := by
  unfold dU; rw [if_pos ⟨h0, h1⟩]
theorem dU_letter {base : Int} {c : UInt8} (h : ¬ (48 ≤ (c.toNat : Int) ∧ (c.toNat : Int) ≤ 57)) (h0 : 97 ≤ lowI (c.toNat : Int)) (h1 : lowI (c.toNat : Int) ≤ 122) (h2 : lowI (c.toNat : Int) - 97 + 10 < base) : dU base c = some (lowI (c.toNat : Int) - 97 + 10) := by
  unfold dU; rw [if_neg h, if_pos ⟨h0, h1, h2⟩]
theorem lower_c (x : Int) (w : World) : Calls Tryd.prog 58 #[.int .u8 x] w fun e w' => e = .returned (.int .u8 (lowI x)) ∧ w' = w := Tryd.internal_strconv_lower _ _
theorem lowI_lo (x : Int) : 0 ≤ lowI x := bits_lo_u8 .or _ _
theorem lowI_hi (x : Int) : lowI x ≤ 255 := bits_hi_u8 .or _ _
theorem dU_not {base : Int} {c : UInt8} (h : ¬ (48 ≤ (c.toNat : Int) ∧ (c.toNat : Int) ≤ 57)) (h0 : ¬ (97 ≤ lowI (c.toNat : Int) ∧ lowI (c.toNat : Int) ≤ 122 ∧ lowI (c.toNat : Int) - 97 + 10 < base)) : dU base c = none := by
  unfold dU; rw [if_neg h, if_neg h0]


set_option maxHeartbeats 32000000 in
set_option maxRecDepth 100000 in
theorem inner_10 (t : ByteArray) (hne : t.size ≠ 0) (hmax : t.size ≤ 9223372036854775806) (w : World) :
    Calls Tryd.prog 44 #[.string t, .int .i64 10, .int .i64 63] w fun e w' => e = .returned (uTup (pU 10 0 t.data.toList)) ∧ w' = Lib.bytesWorld w 5 t := by
  have hemp : t.toList.isEmpty = false := by
    rw [← decide_eq_emptyBytes]
    exact decide_eq_false (fun h => hne (by rw [h]; rfl))
  have hcv := Lib.run_convert_string_bytes (P := Tryd.prog) w 9 38 5 t (u := .string) Tryd.underlying9 Tryd.underlying38 Tryd.underlying5
  have hB : ∀ j, j < t.size → (Lib.bytesWorld w 5 t).cell? ⟨w.heap.size, j, none⟩ = some (.int .u8 (t.data.toList.getD j 0).toNat) := fun j hj => Lib.bytesWorld_cell w 5 t j hj
  obtain ⟨W1, hW1⟩ : ∃ W1, W1 = Lib.bytesWorld w 5 t := ⟨_, rfl⟩
  rw [← hW1] at hcv hB ⊢
  clear hW1
  obtain ⟨bs, hL⟩ : ∃ bs, bs = t.data.toList := ⟨_, rfl⟩
  have hLn : bs.length = t.size := by rw [hL, Lib.size_eq]
  rw [← hL] at hB ⊢
  clear hL
  have hmv : IntKind.u64.wrap (IntKind.u64.wrap 9223372036854775808 - 1) = 9223372036854775807 := by
    rw [IntKind.wrap_u64, IntKind.wrap_u64]
    decide
  go_enter Tryd.func44, Tryd.ntmps44
  go_wp2
  go_loop [12, 13, 101] (fun vu vn vi => ∃ (k : Nat) (a : Int), vu = .bool false ∧ vn = .int .u64 a ∧ vi = .int .i64 k ∧ k ≤ t.size ∧ 0 ≤ a ∧ a ≤ 9223372036854775807 ∧ Hid (pU 10 0 bs = pU 10 a (bs.drop k)))
    (fun _ _ vi => t.size - (intOf vi).toNat)
  case atStart => exact ⟨0, 0, rfl, rfl, rfl, by omega, by omega, by omega, Lib.hid rfl⟩
  case round =>
    obtain ⟨k, a, rfl, rfl, rfl, hk, a0, a1, hh⟩ := hrel
    have hdec := hh.out
    clear hh
    by_cases hkn : k < t.size
    · have hc := hB k hkn
      have hdrop : bs.drop k = bs[k]'(by omega) :: bs.drop (k + 1) := List.drop_eq_getElem_cons (by omega)
      have hget : bs.getD k 0 = bs[k]'(by omega) := by simp [List.getD, List.getElem?_eq_getElem (show k < bs.length by omega)]
      rw [hdrop] at hdec
      rw [hget] at hc
      generalize bs[k]'(by omega) = c at hc hdec
      have hc256 : (c.toNat : Int) < 256 := by have := c.toNat_lt; omega
      have hc0 : 0 ≤ (c.toNat : Int) := by omega
      clear hB hdrop hget
      by_cases hdig : 48 ≤ (c.toNat : Int) ∧ (c.toNat : Int) ≤ 57
      · have hd : dU 10 c = some ((c.toNat : Int) - 48) := dU_digit hdig.1 hdig.2
        obtain ⟨hd0, hd1⟩ := hdig
        by_cases hov : a * 10 + ((c.toNat : Int) - 48) ≤ 9223372036854775807
        · have iov : a * 10 + ((c.toNat : Int) - 48) ≤ 9223372036854775807 := by omega
          have HN : Hid (pU 10 0 bs = pU 10 (a * 10 + ((c.toNat : Int) - 48)) (bs.drop (k + 1))) := Lib.hid (hdec.trans (pU_digit hd hov))
          have lo : 0 ≤ a * 10 + ((c.toNat : Int) - 48) := by omega
          have hcut : ¬ 1844674407370955162 ≤ a := by omega
          clear hd hdec hov
          all_goals go_wp2
          all_goals refine ⟨⟨k + 1, a * 10 + ((c.toNat : Int) - 48), rfl, (by first | rfl | (congr 1; omega)), (by first | rfl | (congr 1; omega)), by omega, lo, iov, HN⟩, by simp [intOf]; omega⟩
        · have HF := Lib.hid (hdec.trans (pU_over hd hov))
          have iov : 9223372036854775807 < a * 10 + ((c.toNat : Int) - 48) := by omega
          clear hd hdec hov
          by_cases hcut : 1844674407370955162 ≤ a
          · all_goals go_wp2
            all_goals go_ret2
            all_goals exact ⟨by rw [HF.out]; rfl, rfl⟩
          · by_cases hw : a * 10 + ((c.toNat : Int) - 48) ≤ 18446744073709551615
            · all_goals go_wp2
              all_goals go_ret2
              all_goals exact ⟨by rw [HF.out]; rfl, rfl⟩
            · have ew : IntKind.u64.wrap (a * 10 + ((c.toNat : Int) - 48)) = a * 10 + ((c.toNat : Int) - 48) - 18446744073709551616 := by rw [IntKind.wrap_u64]; omega
              have iw0 : 0 ≤ a * 10 + ((c.toNat : Int) - 48) - 18446744073709551616 := by omega
              have iw1 : a * 10 + ((c.toNat : Int) - 48) - 18446744073709551616 < a * 10 := by omega
              clear iov hw
              go_wp2
              all_goals go_ret2
              all_goals exact ⟨by rw [HF.out]; rfl, rfl⟩
      · have hv0 := lowI_lo (c.toNat : Int)
        have hv1 := lowI_hi (c.toNat : Int)
        have h95 : ((c.toNat : Int) == 95) = true ∨ ((c.toNat : Int) == 95) = false := by cases ((c.toNat : Int) == 95) <;> simp
        by_cases hlt : 97 ≤ lowI (c.toNat : Int) ∧ lowI (c.toNat : Int) ≤ 122 ∧ lowI (c.toNat : Int) - 97 + 10 < 10
        · have hd : dU 10 c = some (lowI (c.toNat : Int) - 97 + 10) := dU_letter hdig hlt.1 hlt.2.1 hlt.2.2
          obtain ⟨hl0, hl1, hl2⟩ := hlt
          rcases h95 with h95 | h95
          · exact absurd (beq_iff_eq.1 h95) (fun h => by rw [h] at hl1; exact absurd hl1 (by decide))
          have hdig' : (c.toNat : Int) < 48 ∨ (48 ≤ (c.toNat : Int) ∧ 57 < (c.toNat : Int)) := by omega
          clear hdig
          by_cases hov : a * 10 + (lowI (c.toNat : Int) - 97 + 10) ≤ 9223372036854775807
          · exfalso; omega
          · exfalso; omega
        · have HF := Lib.hid (hdec.trans (pU_none (dU_not hdig hlt)))
          clear hdec
          have hlt' : lowI (c.toNat : Int) < 97 ∨ (97 ≤ lowI (c.toNat : Int) ∧ 122 < lowI (c.toNat : Int)) ∨ (97 ≤ lowI (c.toNat : Int) ∧ lowI (c.toNat : Int) ≤ 122 ∧ 10 ≤ lowI (c.toNat : Int) - 97 + 10) := by omega
          have hdig' : (c.toNat : Int) < 48 ∨ (48 ≤ (c.toNat : Int) ∧ 57 < (c.toNat : Int)) := by omega
          clear hlt hdig
          rcases h95 with h95 | h95
          · have hc95 := beq_iff_eq.1 h95
            have hlow : lowI (c.toNat : Int) = 127 := by rw [hc95]; decide
            rcases hlt' with h | ⟨h, h'⟩ | ⟨h, h', _⟩
            · exfalso; omega
            · rcases hdig' with h2 | ⟨h2, h2'⟩
              · exfalso; omega
              · clear hc95 hlow
                go_wp2_with (go_at_call 58; refine (lower_c _ _).mono ?_; rintro e w' ⟨rfl, rfl⟩)
                go_ret2
                exact ⟨by rw [HF.out]; rfl, rfl⟩
            · exfalso; omega
          · rcases hdig' with h2 | ⟨h2, h2'⟩
            all_goals rcases hlt' with h | ⟨h, h'⟩ | ⟨h, h', h''⟩
            all_goals go_wp2_with (go_at_call 58; refine (lower_c _ _).mono ?_; rintro e w' ⟨rfl, rfl⟩)
            all_goals (go_ret2; exact ⟨by rw [HF.out]; rfl, rfl⟩)
    · have hkk : k = t.size := by omega
      subst hkk
      have HF := Lib.hid (show pU 10 0 bs = .ok a by rw [hdec, List.drop_eq_nil_of_le (by omega)]; rfl)
      clear hdec
      go_wp2
      go_ret2
      exact ⟨by rw [HF.out]; rfl, rfl⟩


set_option maxHeartbeats 32000000 in
set_option maxRecDepth 100000 in
theorem inner_16 (t : ByteArray) (hne : t.size ≠ 0) (hmax : t.size ≤ 9223372036854775806) (w : World) :
    Calls Tryd.prog 44 #[.string t, .int .i64 16, .int .i64 63] w fun e w' => e = .returned (uTup (pU 16 0 t.data.toList)) ∧ w' = Lib.bytesWorld w 5 t := by
  have hemp : t.toList.isEmpty = false := by
    rw [← decide_eq_emptyBytes]
    exact decide_eq_false (fun h => hne (by rw [h]; rfl))
  have hcv := Lib.run_convert_string_bytes (P := Tryd.prog) w 9 38 5 t (u := .string) Tryd.underlying9 Tryd.underlying38 Tryd.underlying5
  have hB : ∀ j, j < t.size → (Lib.bytesWorld w 5 t).cell? ⟨w.heap.size, j, none⟩ = some (.int .u8 (t.data.toList.getD j 0).toNat) := fun j hj => Lib.bytesWorld_cell w 5 t j hj
  obtain ⟨W1, hW1⟩ : ∃ W1, W1 = Lib.bytesWorld w 5 t := ⟨_, rfl⟩
  rw [← hW1] at hcv hB ⊢
  clear hW1
  obtain ⟨bs, hL⟩ : ∃ bs, bs = t.data.toList := ⟨_, rfl⟩
  have hLn : bs.length = t.size := by rw [hL, Lib.size_eq]
  rw [← hL] at hB ⊢
  clear hL
  have hmv : IntKind.u64.wrap (IntKind.u64.wrap 9223372036854775808 - 1) = 9223372036854775807 := by
    rw [IntKind.wrap_u64, IntKind.wrap_u64]
    decide
  go_enter Tryd.func44, Tryd.ntmps44
  go_wp2
  go_loop [12, 13, 101] (fun vu vn vi => ∃ (k : Nat) (a : Int), vu = .bool false ∧ vn = .int .u64 a ∧ vi = .int .i64 k ∧ k ≤ t.size ∧ 0 ≤ a ∧ a ≤ 9223372036854775807 ∧ Hid (pU 16 0 bs = pU 16 a (bs.drop k)))
    (fun _ _ vi => t.size - (intOf vi).toNat)
  case atStart => exact ⟨0, 0, rfl, rfl, rfl, by omega, by omega, by omega, Lib.hid rfl⟩
  case round =>
    obtain ⟨k, a, rfl, rfl, rfl, hk, a0, a1, hh⟩ := hrel
    have hdec := hh.out
    clear hh
    by_cases hkn : k < t.size
    · have hc := hB k hkn
      have hdrop : bs.drop k = bs[k]'(by omega) :: bs.drop (k + 1) := List.drop_eq_getElem_cons (by omega)
      have hget : bs.getD k 0 = bs[k]'(by omega) := by simp [List.getD, List.getElem?_eq_getElem (show k < bs.length by omega)]
      rw [hdrop] at hdec
      rw [hget] at hc
      generalize bs[k]'(by omega) = c at hc hdec
      have hc256 : (c.toNat : Int) < 256 := by have := c.toNat_lt; omega
      have hc0 : 0 ≤ (c.toNat : Int) := by omega
      clear hB hdrop hget
      by_cases hdig : 48 ≤ (c.toNat : Int) ∧ (c.toNat : Int) ≤ 57
      · have hd : dU 16 c = some ((c.toNat : Int) - 48) := dU_digit hdig.1 hdig.2
        obtain ⟨hd0, hd1⟩ := hdig
        by_cases hov : a * 16 + ((c.toNat : Int) - 48) ≤ 9223372036854775807
        · have iov : a * 16 + ((c.toNat : Int) - 48) ≤ 9223372036854775807 := by omega
          have HN : Hid (pU 16 0 bs = pU 16 (a * 16 + ((c.toNat : Int) - 48)) (bs.drop (k + 1))) := Lib.hid (hdec.trans (pU_digit hd hov))
          have lo : 0 ≤ a * 16 + ((c.toNat : Int) - 48) := by omega
          have hcut : ¬ 1152921504606846976 ≤ a := by omega
          clear hd hdec hov
          all_goals go_wp2
          all_goals refine ⟨⟨k + 1, a * 16 + ((c.toNat : Int) - 48), rfl, (by first | rfl | (congr 1; omega)), (by first | rfl | (congr 1; omega)), by omega, lo, iov, HN⟩, by simp [intOf]; omega⟩
        · have HF := Lib.hid (hdec.trans (pU_over hd hov))
          have iov : 9223372036854775807 < a * 16 + ((c.toNat : Int) - 48) := by omega
          clear hd hdec hov
          by_cases hcut : 1152921504606846976 ≤ a
          · all_goals go_wp2
            all_goals go_ret2
            all_goals exact ⟨by rw [HF.out]; rfl, rfl⟩
          · by_cases hw : a * 16 + ((c.toNat : Int) - 48) ≤ 18446744073709551615
            · all_goals go_wp2
              all_goals go_ret2
              all_goals exact ⟨by rw [HF.out]; rfl, rfl⟩
            · exfalso; omega
      · have hv0 := lowI_lo (c.toNat : Int)
        have hv1 := lowI_hi (c.toNat : Int)
        have h95 : ((c.toNat : Int) == 95) = true ∨ ((c.toNat : Int) == 95) = false := by cases ((c.toNat : Int) == 95) <;> simp
        by_cases hlt : 97 ≤ lowI (c.toNat : Int) ∧ lowI (c.toNat : Int) ≤ 122 ∧ lowI (c.toNat : Int) - 97 + 10 < 16
        · have hd : dU 16 c = some (lowI (c.toNat : Int) - 97 + 10) := dU_letter hdig hlt.1 hlt.2.1 hlt.2.2
          obtain ⟨hl0, hl1, hl2⟩ := hlt
          rcases h95 with h95 | h95
          · exact absurd (beq_iff_eq.1 h95) (fun h => by rw [h] at hl1; exact absurd hl1 (by decide))
          have hdig' : (c.toNat : Int) < 48 ∨ (48 ≤ (c.toNat : Int) ∧ 57 < (c.toNat : Int)) := by omega
          clear hdig
          by_cases hov : a * 16 + (lowI (c.toNat : Int) - 97 + 10) ≤ 9223372036854775807
          · have iov : a * 16 + (lowI (c.toNat : Int) - 97 + 10) ≤ 9223372036854775807 := by omega
            have HN : Hid (pU 16 0 bs = pU 16 (a * 16 + (lowI (c.toNat : Int) - 97 + 10)) (bs.drop (k + 1))) := Lib.hid (hdec.trans (pU_digit hd hov))
            have lo : 0 ≤ a * 16 + (lowI (c.toNat : Int) - 97 + 10) := by omega
            have hcut : ¬ 1152921504606846976 ≤ a := by omega
            clear hd hdec hov
            all_goals (rcases hdig' with h2 | ⟨h2, h2'⟩ <;> go_wp2_with (go_at_call 58; refine (lower_c _ _).mono ?_; rintro e w' ⟨rfl, rfl⟩))
            all_goals refine ⟨⟨k + 1, a * 16 + (lowI (c.toNat : Int) - 97 + 10), rfl, (by first | rfl | (congr 1; omega)), (by first | rfl | (congr 1; omega)), by omega, lo, iov, HN⟩, by simp [intOf]; omega⟩
          · have HF := Lib.hid (hdec.trans (pU_over hd hov))
            have iov : 9223372036854775807 < a * 16 + (lowI (c.toNat : Int) - 97 + 10) := by omega
            clear hd hdec hov
            by_cases hcut : 1152921504606846976 ≤ a
            · all_goals (rcases hdig' with h2 | ⟨h2, h2'⟩ <;> go_wp2_with (go_at_call 58; refine (lower_c _ _).mono ?_; rintro e w' ⟨rfl, rfl⟩))
              all_goals go_ret2
              all_goals exact ⟨by rw [HF.out]; rfl, rfl⟩
            · by_cases hw : a * 16 + (lowI (c.toNat : Int) - 97 + 10) ≤ 18446744073709551615
              · all_goals (rcases hdig' with h2 | ⟨h2, h2'⟩ <;> go_wp2_with (go_at_call 58; refine (lower_c _ _).mono ?_; rintro e w' ⟨rfl, rfl⟩))
                all_goals go_ret2
                all_goals exact ⟨by rw [HF.out]; rfl, rfl⟩
              · exfalso; omega
        · have HF := Lib.hid (hdec.trans (pU_none (dU_not hdig hlt)))
          clear hdec
          have hlt' : lowI (c.toNat : Int) < 97 ∨ (97 ≤ lowI (c.toNat : Int) ∧ 122 < lowI (c.toNat : Int)) ∨ (97 ≤ lowI (c.toNat : Int) ∧ lowI (c.toNat : Int) ≤ 122 ∧ 16 ≤ lowI (c.toNat : Int) - 97 + 10) := by omega
          have hdig' : (c.toNat : Int) < 48 ∨ (48 ≤ (c.toNat : Int) ∧ 57 < (c.toNat : Int)) := by omega
          clear hlt hdig
          rcases h95 with h95 | h95
          · have hc95 := beq_iff_eq.1 h95
            have hlow : lowI (c.toNat : Int) = 127 := by rw [hc95]; decide
            rcases hlt' with h | ⟨h, h'⟩ | ⟨h, h', _⟩
            · exfalso; omega
            · rcases hdig' with h2 | ⟨h2, h2'⟩
              · exfalso; omega
              · clear hc95 hlow
                go_wp2_with (go_at_call 58; refine (lower_c _ _).mono ?_; rintro e w' ⟨rfl, rfl⟩)
                go_ret2
                exact ⟨by rw [HF.out]; rfl, rfl⟩
            · exfalso; omega
          · rcases hdig' with h2 | ⟨h2, h2'⟩
            all_goals rcases hlt' with h | ⟨h, h'⟩ | ⟨h, h', h''⟩
            all_goals go_wp2_with (go_at_call 58; refine (lower_c _ _).mono ?_; rintro e w' ⟨rfl, rfl⟩)
            all_goals (go_ret2; exact ⟨by rw [HF.out]; rfl, rfl⟩)
    · have hkk : k = t.size := by omega
      subst hkk
      have HF := Lib.hid (show pU 16 0 bs = .ok a by rw [hdec, List.drop_eq_nil_of_le (by omega)]; rfl)
      clear hdec
      go_wp2
      go_ret2
      exact ⟨by rw [HF.out]; rfl, rfl⟩

end Go.Proofs.YtjegaejdphmdgaaDoor.LexP
