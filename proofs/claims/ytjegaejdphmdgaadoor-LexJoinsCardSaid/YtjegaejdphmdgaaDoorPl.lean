/-
  The printed functions of the lexer say what the plain words (LexP) say: letters, digits, spans, numbers.
-/
import Derived.Test.YtjegaejdphmdgaaDoorPrA1
import Derived.Test.YtjegaejdphmdgaaDoorPrA2
import Derived.Test.YtjegaejdphmdgaaDoorGap
namespace Go.Proofs.YtjegaejdphmdgaaDoor.Print
open Go.RowKit Go.Lib Go.Proofs.YtjegaejdphmdgaaDoorW.PrintWords Go.Proofs.YtjegaejdphmdgaaDoor.LexP
set_option linter.unusedVariables false

theorem bt_nat (s : ByteArray) (k : Nat) {c : UInt8} {t : List UInt8} (h : s.data.toList.drop k = c :: t) : bt s (k : Int) = (c.toNat : Int) := by
  have hk : k < s.data.size := by
    rcases Nat.lt_or_ge k s.data.size with h' | h'
    · exact h'
    · rw [List.drop_eq_nil_of_le (by simpa using h')] at h; cases h
  have hk' : k < s.size := hk
  have he : s.data[k]'hk = c := by
    rw [List.drop_eq_getElem_cons (by simpa using hk)] at h
    injection h with h _
  unfold bt
  rw [dif_pos (by simpa using hk')]
  simp only [Int.toNat_natCast, ByteArray.getElem_eq_getElem_data, he]
/-- What holds of each byte. -/
theorem all_bytes {P : UInt8 → Prop} (h : ∀ n : Fin 256, P (UInt8.ofNat n.val)) (c : UInt8) : P c := by
  have := h ⟨c.toNat, c.toNat_lt⟩
  rwa [UInt8.ofNat_toNat] at this
theorem lex_letter_plain (c : UInt8) : lex_letter.f (c.toNat : Int) = some (isLetter c) := all_bytes (P := fun c => lex_letter.f (c.toNat : Int) = some (isLetter c)) (by decide +kernel) c
theorem lex_digit_plain (c : UInt8) : lex_digit.f (c.toNat : Int) = some (isDigit c) := all_bytes (P := fun c => lex_digit.f (c.toNat : Int) = some (isDigit c)) (by decide +kernel) c

theorem wrap_small {x : Int} (h0 : 0 ≤ x) (h : x ≤ 9223372036854775807) : wrap64 x = x := by unfold wrap64; omega
theorem span_nil : span [] = 0 := rfl
theorem span_yes {c : UInt8} {t : List UInt8} (h : isWordB c = true) : span (c :: t) = span t + 1 := by simp [span, h]
theorem span_no {c : UInt8} {t : List UInt8} (h : isWordB c = false) : span (c :: t) = 0 := by simp [span, h]
theorem span_from (s : ByteArray) (hs : s.size ≤ 140737488351232) : ∀ (d k n : Nat), n ≤ s.size → s.size - n = d → d < k → lex_span.l0 k s (n : Int) = some (((n + span (s.data.toList.drop n) : Nat)) : Int) := by
  intro d
  induction d with
  | zero =>
    intro k n hn hd hk
    obtain ⟨k, rfl⟩ : ∃ m, k = m + 1 := ⟨k - 1, by omega⟩
    simp only [lex_span.l0]
    rw [if_neg (by omega), List.drop_eq_nil_of_le (by rw [size_len]; omega)]
    rfl
  | succ d ih =>
    intro k n hn hd hk
    obtain ⟨k, rfl⟩ : ∃ m, k = m + 1 := ⟨k - 1, by omega⟩
    have hlt : n < s.size := by omega
    have hk' : n < s.data.size := hlt
    obtain ⟨c, hdrop⟩ : ∃ c, s.data.toList.drop n = c :: s.data.toList.drop (n + 1) := ⟨_, List.drop_eq_getElem_cons (by simpa using hk')⟩
    have hb := bt_nat s n hdrop
    have hi := ih k (n + 1) (by omega) (by omega) (by omega)
    simp only [lex_span.l0]
    rw [if_pos (by omega), if_pos (by omega), hb, lex_letter_plain, lex_digit_plain, wrap_small (by omega) (by omega), show (n : Int) + 1 = ((n + 1 : Nat) : Int) by omega, hi, hdrop]
    simp only [Option.bind_some]
    by_cases h1 : isLetter c = true
    · rw [if_pos h1, span_yes (by simp [isWordB, h1])]; congr 2; omega
    · rw [if_neg h1]
      by_cases h2 : isDigit c = true
      · rw [if_pos h2, span_yes (by simp [isWordB, h2])]; congr 2; omega
      · rw [if_neg h2, span_no (by simp [isWordB, h1, h2])]; rfl
theorem span_plain (s : ByteArray) (hs : s.size ≤ 140737488351232) : lex_span.f (s.size + 1) s = some ((span s.data.toList : Nat) : Int) := by
  have := span_from s hs s.size (s.size + 1) 0 (by omega) (by omega) (by omega)
  simpa [lex_span.f] using this

/-! ### what a TNum means -/
def fineB (b : UInt8) : Bool := isDigit b || (97 ≤ b && b ≤ 102) || b == 120
theorem dig_fine {base : Nat} {b : UInt8} {d : Nat} (h : dig base b = some d) : fineB b = true := by
  unfold dig at h
  by_cases h1 : isDigit b = true
  · simp [fineB, h1]
  · rw [if_neg h1] at h
    split at h
    · rename_i h2; simp [fineB, h2.2.1, h2.2.2]
    · cases h
theorem num_fine {base : Nat} : ∀ {l : List UInt8} {acc n : Nat}, num base acc l = some n → ∀ b ∈ l, fineB b = true
  | [], _, _, _, b, hb => by cases hb
  | c :: l, acc, n, h, b, hb => by
    unfold num at h
    cases hd : dig base c with
    | none => rw [hd] at h; cases h
    | some d =>
      rw [hd] at h
      simp only at h
      split at h
      · rcases List.mem_cons.1 hb with rfl | hb
        · exact dig_fine hd
        · exact num_fine h b hb
      · cases h
theorem meanNum_fine {l : List UInt8} {n : Nat} (h : meanNum l = some n) : ∀ b ∈ l, fineB b = true := by
  unfold meanNum at h
  split at h
  · cases h
  · rename_i c t
    split at h
    · cases h
    split at h
    · cases h
    split at h
    · cases h
    · rename_i l'
      intro b hb
      rcases List.mem_cons.1 hb with rfl | hb
      · rfl
      rcases List.mem_cons.1 hb with rfl | hb
      · rfl
      · exact num_fine h b hb
    · exact num_fine h
def optNat : NumEnd Int → Option Nat
  | .ok n => some n.toNat
  | _ => none
theorem dU_dig10 (c : UInt8) (h : ¬ (65 ≤ c ∧ c ≤ 90)) : dU 10 c = (dig 10 c).map Int.ofNat :=
  (all_bytes (P := fun c => ¬ (65 ≤ c ∧ c ≤ 90) → dU 10 c = (dig 10 c).map Int.ofNat) (by decide +kernel) c) h
theorem dU_dig16 (c : UInt8) (h : ¬ (65 ≤ c ∧ c ≤ 90)) : dU 16 c = (dig 16 c).map Int.ofNat :=
  (all_bytes (P := fun c => ¬ (65 ≤ c ∧ c ≤ 90) → dU 16 c = (dig 16 c).map Int.ofNat) (by decide +kernel) c) h
theorem dU_ascii10 (c : UInt8) (h : dU 10 c ≠ none) : c.toNat < 128 :=
  (all_bytes (P := fun c => dU 10 c ≠ none → c.toNat < 128) (by decide +kernel) c) h
theorem dU_ascii16 (c : UInt8) (h : dU 16 c ≠ none) : c.toNat < 128 :=
  (all_bytes (P := fun c => dU 16 c ≠ none → c.toNat < 128) (by decide +kernel) c) h
theorem pU_num (B : Nat) (hB : B = 10 ∨ B = 16) : ∀ (l : List UInt8) (acc : Nat), (∀ b ∈ l, ¬ (65 ≤ b ∧ b ≤ 90)) → acc < 9223372036854775808 →
    (∃ n : Nat, pU B acc l = .ok (n : Int) ∧ num B acc l = some n) ∨ ((∀ v, pU B acc l ≠ .ok v) ∧ num B acc l = none)
  | [], acc, _, _ => .inl ⟨acc, rfl, rfl⟩
  | c :: l, acc, h, ha => by
    have hc := h c (.head _)
    have hd : dU B c = (dig B c).map Int.ofNat := by
      rcases hB with rfl | rfl
      · exact dU_dig10 c hc
      · exact dU_dig16 c hc
    unfold pU num
    cases hg : dig B c with
    | none =>
      rw [hg] at hd
      rw [hd]
      exact .inr ⟨fun v => by simp, rfl⟩
    | some d =>
      rw [hg] at hd
      rw [hd]
      simp only [Option.map_some]
      have hm' : (acc : Int) * (B : Int) = ((acc * B : Nat) : Int) := (Int.natCast_mul acc B).symm
      rw [hm']
      have hIH := pU_num B hB l (acc * B + d) (fun b hb => h b (.tail _ hb))
      generalize acc * B = m at hIH ⊢
      have hcast : (m : Int) + Int.ofNat d = ((m + d : Nat) : Int) := rfl
      rw [hcast]
      by_cases hlt : m + d < 9223372036854775808
      · rw [if_pos (by omega), if_pos hlt]
        exact hIH hlt
      · rw [if_neg (by omega), if_neg hlt]
        exact .inr ⟨fun v => (by intro e; cases e), rfl⟩
theorem pU_ascii (B : Int) (hB : B = 10 ∨ B = 16) : ∀ (l : List UInt8) (acc v : Int), pU B acc l = .ok v → ∀ b ∈ l, b.toNat < 128
  | [], _, _, _, b, hb => by cases hb
  | c :: l, acc, v, h, b, hb => by
    unfold pU at h
    cases hd : dU B c with
    | none => rw [hd] at h; cases h
    | some d =>
      rw [hd] at h
      simp only at h
      split at h
      · rcases List.mem_cons.1 hb with rfl | hb
        · rcases hB with rfl | rfl
          · exact dU_ascii10 b (by rw [hd]; simp)
          · exact dU_ascii16 b (by rw [hd]; simp)
        · exact pU_ascii B hB l _ v h b hb
      · cases h
theorem starts_eq0 (s p : ByteArray) (h : p.size ≤ s.size) : ((s.extract 0 p.size).toList == p.toList) = Lib.hasPrefix s.data.toList p.data.toList := by
  have h1 := Lib.hasPrefix_of_take s.data.toList p.data.toList
  rw [← h1, Lib.toList_data, Lib.toList_data, Lib.extract_data, ← Lib.size_eq, List.drop_zero, Nat.sub_zero, decide_eq_true (by rw [size_len]; omega), Bool.true_and]
theorem hasPrefix_plain (s p : ByteArray) (hs : s.size ≤ 140737488351232) : stringslite_HasPrefix.f s p = some (Lib.hasPrefix s.data.toList p.data.toList) := by
  unfold stringslite_HasPrefix.f
  by_cases h : (s.size : Int) ≥ (p.size : Int)
  · rw [if_pos h, if_pos (by omega), if_pos (by omega)]
    have h1 := starts_eq0 s p (by omega)
    simp only [Int.toNat_natCast]
    rw [h1]
  · rw [if_neg h]
    have hf : Lib.hasPrefix s.data.toList p.data.toList = false := Bool.eq_false_iff.2 (fun hh => h (by have := prefix_len hh; rw [size_len, ← Lib.size_eq] at this; omega))
    rw [hf]
theorem cutPrefix_plain (s : ByteArray) (hs : s.size ≤ 140737488351232) : strings_CutPrefix.f s ⟨#[48, 120]⟩ = some (if Lib.hasPrefix s.data.toList [48, 120] = true then (s.extract 2 s.size, true) else (s, false)) := by
  unfold strings_CutPrefix.f stringslite_CutPrefix.f
  rw [hasPrefix_plain s _ hs]
  simp only [Option.bind_some]
  by_cases h : Lib.hasPrefix s.data.toList [48, 120] = true
  · have h2 := prefix_len h
    rw [size_len] at h2
    simp only [List.length_cons, List.length_nil] at h2
    rw [if_pos h, if_pos h, if_pos (by decide), if_pos (show ((⟨#[48, 120]⟩ : ByteArray).size : Int) ≤ s.size by show (2 : Int) ≤ _; omega)]
    rfl
  · rw [if_neg h, if_neg h]; rfl
def fin (e : NumEnd Int) : Int × Int := match e with | .ok n => (n, 0) | _ => (0, 10)
theorem parse_fin (x : ByteArray) (b : Int) (hb : b = 10 ∨ b = 16) (hs : x.size ≤ 140737488351232) :
    ((strconv_ParseUint.f x b 63).bind fun bt => (if bt.2.isNone = true then (some (bt.1, (0 : Int))) else (some (0, 10)))) = some (fin (pRes x b)) := by
  unfold strconv_ParseUint.f
  rw [if_pos ⟨hb, rfl, hs⟩]
  simp only [Option.bind_some]
  cases pRes x b <;> simp [endOf, fin]
theorem j1_true (s : ByteArray) : lex_Mean.j1 1 s true = some (0, 10) := by simp [lex_Mean.j1]
theorem j1_false (s : ByteArray) (hs : s.size ≤ 140737488351232) : lex_Mean.j1 1 s false = some (if Lib.hasPrefix s.data.toList [48, 120] = true then fin (pRes (s.extract 2 s.size) 16) else fin (pRes s 10)) := by
  simp only [lex_Mean.j1]
  rw [if_neg (by decide), cutPrefix_plain s hs]
  simp only [Option.bind_some]
  by_cases h : Lib.hasPrefix s.data.toList [48, 120] = true
  · rw [if_pos h, if_pos h]
    simp only [if_true]
    exact parse_fin _ 16 (.inr rfl) (by simp; omega)
  · rw [if_neg h, if_neg h]
    simp only [Bool.false_eq_true, if_false]
    exact parse_fin _ 10 (.inl rfl) hs
def meanRes (o : Option Nat) : Int × Int := match o with | some n => ((n : Int), 0) | none => (0, 10)
theorem fin_num {x : ByteArray} {b : Nat} (hb : b = 10 ∨ b = 16) (h : ∀ c ∈ x.data.toList, ¬ (65 ≤ c ∧ c ≤ 90)) : fin (pRes x b) = meanRes (if x.size = 0 then none else num b 0 x.data.toList) := by
  unfold pRes
  by_cases h0 : x.size = 0
  · rw [if_pos h0, if_pos h0]; rfl
  · rw [if_neg h0, if_neg h0]
    rcases pU_num b hb x.data.toList 0 h (by omega) with ⟨n, h1, h2⟩ | ⟨h1, h2⟩
    · rw [show ((0 : Nat) : Int) = 0 from rfl] at h1; rw [h1, h2]; rfl
    · rw [h2]
      rw [show ((0 : Nat) : Int) = 0 from rfl] at h1
      cases hp : pU (b : Int) 0 x.data.toList with
      | ok v => exact absurd hp (h1 v)
      | _ => rfl
theorem fin_bad {x : ByteArray} {b : Int} (hb : b = 10 ∨ b = 16) {c : UInt8} (hc : c ∈ x.data.toList) (h : ¬ c.toNat < 128) : fin (pRes x b) = (0, 10) := by
  unfold pRes
  split
  · rfl
  · cases hp : pU b 0 x.data.toList with
    | ok v => exact absurd (pU_ascii b hb _ _ _ hp c hc) h
    | _ => rfl
theorem lower_same {l : List UInt8} (ha : ∀ b ∈ l, b.toNat < 128) (h : ∀ b ∈ l, ¬ (65 ≤ b ∧ b ≤ 90)) : Lib.toLowerD l = l := by
  rw [Lib.toLowerD_ascii _ ha]
  unfold Lib.toLowerA
  rw [List.map_congr_left (g := id) (fun b hb => by
    have := h b hb
    unfold Lib.lowerB Lib.isUpperB
    rw [if_neg (by simpa using this)]; rfl), List.map_id]
theorem lower_other {l : List UInt8} (ha : ∀ b ∈ l, b.toNat < 128) {b : UInt8} (hb : b ∈ l) (h : 65 ≤ b ∧ b ≤ 90) : Lib.toLowerD l ≠ l := by
  rw [Lib.toLowerD_ascii _ ha]
  unfold Lib.toLowerA
  intro e
  have : ∀ c ∈ l, Lib.lowerB c = c := by
    intro c hc
    have := List.map_eq_iff.1 (e.trans (List.map_id l).symm)
    obtain ⟨i, hi, rfl⟩ := List.getElem_of_mem hc
    have h3 := List.getElem_of_eq e (i := i) (by simpa using hi)
    simpa using h3
  have h1 := this b hb
  unfold Lib.lowerB Lib.isUpperB at h1
  rw [if_pos (by simpa using h)] at h1
  have h2 : b.toNat + 32 = b.toNat := by
    have := congrArg UInt8.toNat h1
    rw [UInt8.toNat_add] at this
    have := UInt8.le_iff_toNat_le.1 h.2
    simp at *
  omega
theorem indexByte_mem {l : List UInt8} {c : UInt8} : 0 ≤ Lib.indexByte l c ↔ c ∈ l := by
  induction l with
  | nil => simp [Lib.indexByte]
  | cons b l ih =>
    unfold Lib.indexByte
    by_cases h : b = c
    · subst h; simp
    · have hb : (b == c) = false := beq_eq_false_iff_ne.2 h
      rw [hb]
      simp only [Bool.false_eq_true, if_false, List.mem_cons]
      have hge := Lib.indexByte_ge l c
      by_cases h1 : Lib.indexByte l c = -1
      · rw [h1]
        rw [h1] at ih
        constructor
        · intro h'; exact absurd h' (by decide)
        · rintro (rfl | h')
          · exact absurd rfl h
          · exact absurd (ih.2 h') (by decide)
      · have h2 : (Lib.indexByte l c == -1) = false := beq_eq_false_iff_ne.2 h1
        rw [h2]
        simp only [Bool.false_eq_true, if_false]
        constructor
        · intro _; exact .inr (ih.1 (by omega))
        · intro _; omega
theorem upper_bad {b : UInt8} (h : 65 ≤ b ∧ b ≤ 90) : fineB b = false :=
  (all_bytes (P := fun b => 65 ≤ b ∧ b ≤ 90 → fineB b = false) (by decide +kernel) b) h
theorem high_bad {b : UInt8} (h : ¬ b.toNat < 128) : fineB b = false :=
  (all_bytes (P := fun b => ¬ b.toNat < 128 → fineB b = false) (by decide +kernel) b) h
theorem meanNum_bad {l : List UInt8} {b : UInt8} (hb : b ∈ l) (h : fineB b = false) : meanNum l = none := by
  cases hm : meanNum l with
  | none => rfl
  | some n => have := meanNum_fine hm b hb; rw [h] at this; cases this
theorem meanNum_long {c : UInt8} {t : List UInt8} (h20 : 20 < (c :: t).length) : meanNum (c :: t) = none := by
  simp only [meanNum]; rw [if_pos h20]
theorem meanNum_first {c : UInt8} {t : List UInt8} (h : ¬ isDigit c = true) : meanNum (c :: t) = none := by
  simp only [meanNum]
  split
  · rfl
  · rw [if_pos (by simpa using h)]
theorem meanNum_digits {c : UInt8} {t : List UInt8} (h20 : ¬ 20 < (c :: t).length) (hd : isDigit c = true) :
    meanNum (c :: t) = if Lib.hasPrefix (c :: t) [48, 120] = true then (if t.drop 1 = [] then none else num 16 0 (t.drop 1)) else num 10 0 (c :: t) := by
  unfold meanNum
  simp only [if_neg h20, hd, Bool.not_true, Bool.false_eq_true, if_false]
  by_cases h : Lib.hasPrefix (c :: t) [48, 120] = true
  · have hc := prefix_head h
    subst hc
    cases t with
    | nil => simp [Lib.hasPrefix] at h
    | cons d u =>
      have hd2 : d = 120 := by simp [Lib.hasPrefix] at h; exact h.symm
      subst hd2
      rw [if_pos h]
      cases u <;> simp
  · rw [if_neg h]
    split
    · exact absurd rfl h
    · rename_i l' _; exact absurd (by simp [Lib.hasPrefix]) h
    · rfl
theorem j0_false (s : ByteArray) (hs : s.size < 35184372088832) : lex_Mean.j0 2 s false = some (meanRes (meanNum s.data.toList)) := by
  simp only [lex_Mean.j0, Bool.false_eq_true, if_false]
  cases hl : s.data.toList with
  | nil =>
    have : s.toList = [] := by rw [Lib.toList_data, hl]
    rw [if_pos this, j1_true]; rfl
  | cons c t =>
    have hne : ¬ s.toList = [] := by rw [Lib.toList_data, hl]; simp
    have hsz : s.size = t.length + 1 := by rw [← size_len, hl]; rfl
    have hb := bt_nat s 0 (c := c) (t := t) (by simpa using hl)
    rw [if_neg hne, if_pos (by omega), show bt s 0 = (c.toNat : Int) from hb, lex_digit_plain]
    simp only [Option.bind_some]
    by_cases hd : isDigit c = true
    · rw [if_pos hd]
      by_cases h20 : (s.size : Int) > 20
      · rw [if_pos h20, j1_true]
        rw [meanNum_long (by simp; omega)]; rfl
      · rw [if_neg h20]
        have h20' : ¬ 20 < (c :: t).length := by simp; omega
        have hcon : strings_Contains.f s ⟨#[95]⟩ = some (decide (0 ≤ Lib.indexByte s.data.toList 95)) := rfl
        rw [hcon, hl]
        simp only [Option.bind_some]
        by_cases h95 : 0 ≤ Lib.indexByte (c :: t) 95
        · rw [if_pos (decide_eq_true h95), j1_true, meanNum_bad (indexByte_mem.1 h95) (by decide)]; rfl
        · rw [if_neg (by simpa using h95)]
          unfold strings_ToLower.f
          rw [if_pos hs, hl]
          simp only [Option.bind_some]
          have hj : ∀ b : Bool, (∃ x ∈ c :: t, ¬ x.toNat < 128) → lex_Mean.j1 1 s b = some (0, 10) := by
            rintro b ⟨x, hx, hx'⟩
            cases b with
            | true => exact j1_true s
            | false =>
              rw [j1_false s (by omega)]
              by_cases hp : Lib.hasPrefix s.data.toList [48, 120] = true
              · rw [if_pos hp, fin_bad (.inr rfl) (c := x) ?_ hx']
                rw [cut_data, hl]
                rw [hl] at hp
                have hc := prefix_head hp
                subst hc
                cases t with
                | nil => simp [Lib.hasPrefix] at hp
                | cons d u =>
                  have hd2 : d = 120 := by simp [Lib.hasPrefix] at hp; exact hp.symm
                  subst hd2
                  rcases List.mem_cons.1 hx with rfl | hx
                  · exact absurd (by decide) hx'
                  rcases List.mem_cons.1 hx with rfl | hx
                  · exact absurd (by decide) hx'
                  · exact hx
              · rw [if_neg hp, fin_bad (.inl rfl) (c := x) (by rw [hl]; exact hx) hx']
          by_cases hhi : ∃ x ∈ c :: t, ¬ x.toNat < 128
          · rw [hj _ hhi]
            obtain ⟨x, hx, hx'⟩ := hhi
            rw [meanNum_bad hx (high_bad hx')]; rfl
          · have hasc : ∀ b ∈ c :: t, b.toNat < 128 := fun b hb' => Decidable.byContradiction fun h => hhi ⟨b, hb', h⟩
            by_cases hup : ∃ x ∈ c :: t, 65 ≤ x ∧ x ≤ 90
            · obtain ⟨x, hx, hx'⟩ := hup
              have hne := lower_other hasc hx hx'
              have : ((⟨(Lib.toLowerD (c :: t)).toArray⟩ : ByteArray).toList != s.toList) = true := by
                rw [Lib.toList_data, Lib.toList_data, hl]
                simpa using hne
              rw [this, j1_true, meanNum_bad hx (upper_bad hx')]; rfl
            · have hno : ∀ b ∈ c :: t, ¬ (65 ≤ b ∧ b ≤ 90) := fun b hb' h => hup ⟨b, hb', h⟩
              have : ((⟨(Lib.toLowerD (c :: t)).toArray⟩ : ByteArray).toList != s.toList) = false := by
                rw [Lib.toList_data, Lib.toList_data, hl, lower_same hasc hno]
                simp
              rw [this, j1_false s (by omega), meanNum_digits h20' hd, hl]
              by_cases hp : Lib.hasPrefix (c :: t) [48, 120] = true
              · rw [if_pos hp, if_pos hp]
                have hcd : (s.extract 2 s.size).data.toList = t.drop 1 := by rw [cut_data, hl]; rfl
                have := fin_num (x := s.extract 2 s.size) (b := 16) (.inr rfl) (fun b hb' => hno b (by rw [hcd] at hb'; exact .tail _ (List.mem_of_mem_drop hb')))
                rw [show ((16 : Nat) : Int) = 16 from rfl] at this
                rw [this, hcd]
                congr 2
                by_cases h0 : t.drop 1 = []
                · rw [if_pos h0, if_pos (by rw [← size_len, hcd, h0]; rfl)]
                · rw [if_neg h0, if_neg (fun e => h0 (by rw [← hcd]; exact List.eq_nil_of_length_eq_zero (by rw [size_len]; exact e)))]
              · rw [if_neg hp, if_neg hp]
                have := fin_num (x := s) (b := 10) (.inl rfl) (by rw [hl]; exact hno)
                rw [show ((10 : Nat) : Int) = 10 from rfl] at this
                rw [this, if_neg (by omega), hl]
    · rw [if_neg hd, j1_true]
      rw [meanNum_first hd]; rfl
/-- A row of three, quoted. -/
def quoted (l : List UInt8) : Bool := match l with | [39, c, 39] => decide (32 ≤ c ∧ c ≤ 126 ∧ c ≠ 39 ∧ c ≠ 92) | _ => false
theorem mean_else {l : List UInt8} (h : quoted l = false) : mean l = meanNum l := by
  unfold mean
  split
  · rename_i c
    have h' : ¬ (32 ≤ c ∧ c ≤ 126 ∧ c ≠ 39 ∧ c ≠ 92) := by simpa [quoted] using h
    rw [if_neg h', meanNum_first (by decide)]
  · rfl
theorem three {s : ByteArray} (h : s.size = 3) : ∃ a b c, s.data.toList = [a, b, c] := by
  rw [← size_len] at h
  match s.data.toList, h with
  | [a, b, c], _ => exact ⟨a, b, c, rfl⟩
theorem nat_le {a b : UInt8} : (a.toNat : Int) ≤ (b.toNat : Int) ↔ a ≤ b := by rw [UInt8.le_iff_toNat_le]; omega
theorem nat_eq {a b : UInt8} : (a.toNat : Int) = (b.toNat : Int) ↔ a = b := by rw [← UInt8.toNat_inj]; omega
theorem lex_Mean_plain (s : ByteArray) (hs : s.size < 35184372088832) : lex_Mean.f 2 s = some (meanRes (mean s.data.toList)) := by
  unfold lex_Mean.f
  by_cases h3 : (s.size : Int) = 3
  · obtain ⟨a, b, c, hl⟩ := three (s := s) (by omega)
    have b0 := bt_nat s 0 (c := a) (t := [b, c]) (by rw [hl]; rfl)
    have b1 := bt_nat s 1 (c := b) (t := [c]) (by rw [hl]; rfl)
    have b2 := bt_nat s 2 (c := c) (t := []) (by rw [hl]; rfl)
    rw [if_pos h3, if_pos (by omega), show bt s 0 = (a.toNat : Int) from b0, show bt s 1 = (b.toNat : Int) from b1, show bt s 2 = (c.toNat : Int) from b2]
    have e39 : ∀ x : UInt8, ((x.toNat : Int) = 39) ↔ x = 39 := fun x => nat_eq (b := 39)
    have hff : quoted s.data.toList = false → lex_Mean.j0 2 s false = some (meanRes (mean s.data.toList)) := fun h => by rw [j0_false s hs, mean_else h]
    by_cases ha : a = 39
    · rw [if_pos ((e39 a).2 ha), if_pos (by omega)]
      by_cases hc : c = 39
      · rw [if_pos ((e39 c).2 hc), if_pos (by omega)]
        subst ha; subst hc
        by_cases h1 : (b.toNat : Int) ≥ 32
        · rw [if_pos h1]
          by_cases h2 : (b.toNat : Int) ≤ 126
          · rw [if_pos h2]
            by_cases h4 : b = 39
            · rw [if_pos ((e39 b).2 h4)]
              exact hff (by rw [hl, h4]; rfl)
            · rw [if_neg (fun e => h4 ((e39 b).1 e))]
              by_cases h5 : b = 92
              · have : ((b.toNat : Int) != 92) = false := by rw [h5]; rfl
                rw [this]
                exact hff (by rw [hl, h5]; rfl)
              · have : ((b.toNat : Int) != 92) = true := by
                  rw [bne_iff_ne]; intro e; exact h5 ((nat_eq (b := 92)).1 e)
                rw [this]
                have hm : mean s.data.toList = some b.toNat := by
                  rw [hl]
                  unfold mean
                  simp only []
                  rw [if_pos ⟨(nat_le (a := 32)).1 h1, (nat_le (b := 126)).1 h2, h4, h5⟩]
                rw [hm]
                simp only [lex_Mean.j0, if_true]
                rw [if_pos (by omega), show bt s 1 = (b.toNat : Int) from b1]
                have : IntKind.u64.wrap (b.toNat : Int) = (b.toNat : Int) := by rw [IntKind.wrap_u64]; have := b.toNat_lt; omega
                rw [show IntKind.u64.wrap (((b.toNat : Nat) : Int)) = _ from this]
                rfl
          · rw [if_neg h2]
            exact hff (by rw [hl]; simp [quoted]; intro _ h; exact absurd ((nat_le (b := 126)).2 h) h2)
        · rw [if_neg h1]
          exact hff (by rw [hl]; simp [quoted]; intro h; exact absurd ((nat_le (a := 32)).2 h) h1)
      · rw [if_neg (fun e => hc ((e39 c).1 e))]
        exact hff (by rw [hl]; unfold quoted; split <;> simp_all)
    · rw [if_neg (fun e => ha ((e39 a).1 e))]
      exact hff (by rw [hl]; unfold quoted; split <;> simp_all)
  · rw [if_neg h3, j0_false s hs, mean_else]
    unfold quoted
    split
    · rename_i hl
      exact absurd (by rw [← size_len, hl]; rfl) h3
    · rfl
end Go.Proofs.YtjegaejdphmdgaaDoor.Print
