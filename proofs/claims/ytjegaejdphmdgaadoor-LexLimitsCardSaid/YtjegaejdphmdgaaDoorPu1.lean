/-
  The plain laws LexReads, LexMeans, LexOrder: what the lexers compute answers as the statements say.
-/
import Derived.Test.YtjegaejdphmdgaaDoorLx
import Derived.Test.YtjegaejdphmdgaaDoorPrB3
import Derived.Test.YtjegaejdphmdgaaDoorPrB4
namespace Go.Proofs.YtjegaejdphmdgaaDoor.Print
open Go.RowKit Go.Lib Go.Proofs.YtjegaejdphmdgaaDoorW.PrintWords Go.Proofs.YtjegaejdphmdgaaDoor.LexP
set_option linter.unusedVariables false

theorem lmean_plain (s : ByteArray) (n : Nat) (hn : 2 ≤ n) (hs : s.size < 35184372088832) : lex_Mean.f n s = some (meanRes (mean s.data.toList)) :=
  at_rounds (lex_Mean.mono s) hn (lex_Mean_plain s hs)
def doc1 : ByteArray := ⟨#[112, 45, 62, 120, 32, 61, 32, 48, 120, 49, 102, 59]⟩
def doc2 : ByteArray := ⟨#[32, 49, 50, 97]⟩
theorem doc1_reads : (lexR doc1).2.2 = 0 ∧ (lexR doc1).1.length = 7 ∧ ((((rd_T31 (lexR doc1).1 1).f0) == 3 && ((((rd_T31 (lexR doc1).1 1).f1).toList) == ([45, 62] : List UInt8) && (((rd_T31 (lexR doc1).1 1).f2) == 1))) = true) := by decide +kernel
theorem doc2_reads : (lexR doc2).2.2 = 10 ∧ ((lexR doc2).2.1 == 1) = true := by decide +kernel
theorem awake_plain (n : Nat) (hn : 8194 ≤ n) : hauberklaw05_awake.f n = some true := by
  unfold hauberklaw05_awake.f
  have h1 := doc1_reads
  have h2 := doc2_reads
  rw [lex_plain _ n hn, lmean_plain _ n (by omega) (by decide), lex_plain _ n hn]
  simp only [Option.bind_some]
  rw [show mean [39, 65, 39] = some 65 by decide +kernel]
  change (if (lexR doc1).2.2 = 0 then _ else _) = _
  rw [if_pos h1.1]
  change (if ((lexR doc1).1.length : Int) = 7 then _ else _) = _
  rw [if_pos (by rw [h1.2.1]; rfl)]
  change (if 1 < ((lexR doc1).1.length : Int) then _ else _) = _
  rw [if_pos (by rw [h1.2.1]; decide)]
  change (if (((rd_T31 (lexR doc1).1 1).f0) == 3 && ((((rd_T31 (lexR doc1).1 1).f1).toList) == ([45, 62] : List UInt8) && (((rd_T31 (lexR doc1).1 1).f2) == 1))) = true then _ else _) = _
  rw [if_pos h1.2.2]
  change (if (lexR doc2).2.2 = 10 then some ((lexR doc2).2.1 == 1) else some false) = _
  rw [if_pos h2.1, h2.2]
theorem reads_loop (s : ByteArray) (L : Nat) (hL : L ≤ 2501) : ∀ (d n j : Nat) (x3 : List S31), x3.length = L → j ≤ L → L - j = d → d + 8195 ≤ n →
    hauberklaw05_LexReads.l0 n s x3 (lexR s).1 (L : Int) (j : Int) = some true := by
  intro d
  induction d with
  | zero =>
    intro n j x3 hx hj hd hn
    obtain ⟨n, rfl⟩ : ∃ m, n = m + 1 := ⟨n - 1, by omega⟩
    unfold hauberklaw05_LexReads.l0
    rw [if_neg (show ¬ (j : Int) < (L : Int) by omega), lex_plain s n (by omega)]
    simp only [Option.bind_some]
    rw [same_plain _ (by have := lexR_len s; omega) n (by omega)]
    rfl
  | succ d ih =>
    intro n j x3 hx hj hd hn
    obtain ⟨n, rfl⟩ : ∃ m, n = m + 1 := ⟨n - 1, by omega⟩
    unfold hauberklaw05_LexReads.l0
    rw [if_pos (show (j : Int) < (L : Int) by omega), if_pos (show (0 : Int) ≤ (j : Int) by omega), if_pos (show (j : Int) < (x3.length : Int) by omega), wrap_small (by omega) (by omega)]
    exact ih n (j + 1) _ (by simp [hx]) (by omega) (by omega) (by omega)
theorem LexReads : hauberklaw05_LexReads.Pure := by
  intro a0 _
  obtain ⟨n, hn⟩ : ∃ n : Nat, 20000 ≤ n := ⟨20000, Nat.le_refl _⟩
  refine ⟨n + 2, ?_⟩
  unfold hauberklaw05_LexReads.f
  rw [awake_plain _ (by omega)]
  simp only [Option.bind_some, if_true]
  have hmn : mn (a0.size : Int) 8193 = ((min a0.size 8193 : Nat) : Int) := by unfold mn; split <;> omega
  rw [hmn, if_pos (by omega), if_pos (by omega), Int.toNat_natCast, lex_plain _ _ (by omega), ref_plain _ _ (by omega)]
  simp only [Option.bind_some, if_true]
  obtain ⟨s, hs⟩ : ∃ s, s = a0.extract 0 (min a0.size 8193) := ⟨_, rfl⟩
  rw [← hs]
  have hl := lexR_len s
  rw [same_plain _ (by omega) _ (by omega)]
  simp only [Option.bind_some]
  rw [hauberklaw05_LexReads.j0]
  rw [if_neg (by decide)]
  exact reads_loop s _ hl _ _ 0 _ rfl (by omega) rfl (by omega)

/-! ### LexMeans -/
theorem num_sign {c : UInt8} {t : List UInt8} (h1 : ¬ isDigit c = true) (h2 : c ≠ 39) : mean (c :: t) = none := by
  rw [mean_else (by unfold quoted; split <;> simp_all), meanNum_first h1]
theorem letter_byte (c : UInt8) : isLetter c = true → ¬ isDigit c = true ∧ c ≠ 39 := all_bytes (P := fun c => isLetter c = true → ¬ isDigit c = true ∧ c ≠ 39) (by decide +kernel) c
theorem take_cons {c : UInt8} {t : List UInt8} {n : Nat} (h : 1 ≤ n) : (c :: t).take n = c :: t.take (n - 1) := by
  obtain ⟨m, rfl⟩ : ∃ m, n = m + 1 := ⟨n - 1, by omega⟩
  rfl
theorem token_mean (l : List UInt8) (h : (token l).1 ≠ 0) : ((((token l).1 : Nat) : Int) == 2) = (mean (l.take (token l).2)).isSome := by
  match l with
  | [] => exact absurd rfl h
  | c :: t =>
    revert h
    rw [token_cons]
    have hs1 : isWordB c = true → 1 ≤ span (c :: t) := fun h => by rw [span_yes h]; omega
    by_cases h1 : isLetter c = true
    · rw [if_pos h1]
      have h1s := hs1 (by unfold isWordB; rw [h1]; rfl)
      have hb := letter_byte c h1
      have hn : mean ((c :: t).take (span (c :: t))) = none := by rw [take_cons h1s]; exact num_sign hb.1 hb.2
      by_cases h2 : (c :: t).takeWhile isWordB ∈ words
      · rw [if_pos h2]; intro _; simp only []; rw [hn]; rfl
      rw [if_neg h2]
      by_cases h3 : 32 < span (c :: t)
      · rw [if_pos h3]; intro h; exact absurd rfl h
      rw [if_neg h3]; intro _; simp only []; rw [hn]; rfl
    rw [if_neg h1]
    by_cases h2 : isDigit c = true
    · rw [if_pos h2]
      by_cases h3 : (mean ((c :: t).takeWhile isWordB)).isSome = true
      · rw [if_pos h3]; intro _; simp only []; rw [take_span, h3]; rfl
      rw [if_neg h3]; intro h; exact absurd rfl h
    rw [if_neg h2]
    by_cases h3 : c = 39
    · rw [if_pos h3]
      by_cases h4 : (mean ((c :: t).take 3)).isSome = true
      · rw [if_pos h4]; intro _; simp only []; rw [h4]; rfl
      rw [if_neg h4]; intro h; exact absurd rfl h
    rw [if_neg h3]
    by_cases h4 : headTwo (c :: t) = true
    · rw [if_pos h4]; intro _; simp only []; rw [take_cons (by omega), num_sign h2 h3]; rfl
    rw [if_neg h4]
    by_cases h5 : c ∈ ones
    · rw [if_pos h5]; intro _; simp only []; rw [take_cons (by omega), num_sign h2 h3]; rfl
    rw [if_neg h5]; intro h; exact absurd rfl h
theorem lexL_all (s : ByteArray) (Q : S31 → Prop) (hend : ∀ a : Int, Q ⟨0, ⟨#[]⟩, a⟩)
    (htok : ∀ a : Nat, (token (s.data.toList.drop a)).1 ≠ 0 → Q ⟨((token (s.data.toList.drop a)).1 : Int), s.extract a (a + (token (s.data.toList.drop a)).2), (a : Int)⟩) :
    ∀ (n : Nat) (acc : List S31) (k : Nat), (∀ x ∈ acc, Q x) → ∀ x ∈ (lexL s n acc k).1, Q x := by
  intro n
  induction n with
  | zero => intro acc k h x hx; simp [lexL] at hx
  | succ n ih =>
    intro acc k h
    unfold lexL
    split
    · split
      · intro x hx
        rcases List.mem_append.1 hx with hx | hx
        · exact h x hx
        · rw [List.mem_singleton.1 hx]; exact hend _
      · split
        · intro x hx; simp at hx
        · rename_i ht
          split
          · intro x hx; simp at hx
          · refine ih _ _ fun x hx => ?_
            rcases List.mem_append.1 hx with hx | hx
            · exact h x hx
            · rw [List.mem_singleton.1 hx]; exact htok _ ht
    · intro x hx; simp at hx
theorem lexR_means (s : ByteArray) (hs : s.size ≤ 8192) : ∀ x ∈ (lexR s).1, (x.f0 == 2) = (mean x.f1.data.toList).isSome ∧ x.f1.size ≤ 8192 := by
  unfold lexR
  rw [if_neg (by omega)]
  refine lexL_all s _ (fun a => ⟨by rfl, Nat.zero_le _⟩) (fun a ha => ⟨?_, by simp; omega⟩) _ [] 0 (fun x hx => by simp at hx)
  simp only []
  rw [cut_from, Nat.add_sub_cancel_left]
  exact token_mean _ ha
theorem rd_mem (l : List S31) (j : Nat) (hj : j < l.length) : rd_T31 l (j : Int) ∈ l := by
  unfold rd_T31
  rw [Int.toNat_natCast, List.getD_eq_getElem?_getD, List.getElem?_eq_getElem hj]
  exact List.getElem_mem _
theorem means_loop (x9 : Int) (l : List S31) (hl : l.length ≤ 2501) (hx : ∀ x ∈ l, (x.f0 == 2) = (mean x.f1.data.toList).isSome ∧ x.f1.size ≤ 8192) : ∀ (d n j : Nat), j ≤ l.length → l.length - j = d → d + 3 ≤ n →
    hauberklaw05_LexMeans.l0 n x9 l (l.length : Int) (j : Int) = some true := by
  intro d
  induction d with
  | zero =>
    intro n j hj hd hn
    obtain ⟨n, rfl⟩ : ∃ m, n = m + 1 := ⟨n - 1, by omega⟩
    unfold hauberklaw05_LexMeans.l0
    rw [if_neg (show ¬ (j : Int) < (l.length : Int) by omega)]
  | succ d ih =>
    intro n j hj hd hn
    obtain ⟨n, rfl⟩ : ∃ m, n = m + 1 := ⟨n - 1, by omega⟩
    unfold hauberklaw05_LexMeans.l0
    have hm := hx _ (rd_mem l j (by omega))
    rw [if_pos (show (j : Int) < (l.length : Int) by omega), if_pos (show (0 : Int) ≤ (j : Int) by omega), if_pos (show (j : Int) < (l.length : Int) by omega), lmean_plain _ n (by omega) (by omega)]
    simp only [Option.bind_some]
    rw [if_neg (by
      rw [hm.1]
      cases mean (rd_T31 l (j : Int)).f1.data.toList <;> simp [meanRes]), wrap_small (by omega) (by omega)]
    exact ih n (j + 1) (by omega) (by omega) (by omega)
theorem LexMeans : hauberklaw05_LexMeans.Pure := by
  intro a0 _
  obtain ⟨n, hn⟩ : ∃ n : Nat, 20000 ≤ n := ⟨20000, Nat.le_refl _⟩
  refine ⟨n + 2, ?_⟩
  unfold hauberklaw05_LexMeans.f
  rw [awake_plain _ (by omega)]
  simp only [Option.bind_some, if_true]
  rw [hauberklaw05_LexMeans.j0]
  by_cases h : (a0.size : Int) > 200
  · rw [decide_eq_true h, if_pos rfl, awake_plain _ (by omega)]; rfl
  rw [decide_eq_false h, if_neg (by decide), lmean_plain a0 _ (by omega) (by omega), ref_Mean_plain a0 _ (by omega) (by omega)]
  simp only [Option.bind_some]
  have hend : hauberklaw05_LexMeans.j1 (n + 1) a0 false = some true := by
    rw [hauberklaw05_LexMeans.j1]
    rw [if_neg (by decide), lex_plain a0 _ (by omega)]
    simp only [Option.bind_some]
    exact means_loop _ _ (lexR_len a0) (lexR_means a0 (by omega)) _ _ 0 (by omega) rfl (by have := lexR_len a0; omega)
  cases hm : mean a0.data.toList with
  | none =>
    simp only [meanRes, rm]
    simpa using hend
  | some v =>
    simp only [meanRes, rm]
    simpa using hend

/-! ### LexOrder -/
/-- What stands behind a place: tokens in their order, then the end. -/
def Chain (s : ByteArray) : Nat → List S31 → Prop
  | _, [] => False
  | k, x :: [] => x = ⟨0, ⟨#[]⟩, (s.size : Int)⟩
  | k, x :: y :: l => ∃ a t : Nat, k ≤ a ∧ 1 ≤ t ∧ a + t ≤ s.size ∧ x.f2 = a ∧ x.f1 = s.extract a (a + t) ∧ Chain s (a + t) (y :: l)
theorem lexL_chain (s : ByteArray) : ∀ (n : Nat) (acc : List S31) (k : Nat), k ≤ s.size → (lexL s n acc k).2.2 = 0 → ∃ tl, (lexL s n acc k).1 = acc ++ tl ∧ tl ≠ [] ∧ Chain s k tl := by
  intro n
  induction n with
  | zero => intro acc k hk h; simp [lexL] at h
  | succ n ih =>
    intro acc k hk h
    unfold lexL at h ⊢
    have hg := gap_drop s k hk
    split
    · rename_i hg2
      rw [if_pos hg2] at h
      split
      · rename_i he
        exact ⟨_, rfl, by simp, by rw [he]; rfl⟩
      · rename_i he
        rw [if_neg he] at h
        split
        · rename_i ht
          rw [if_pos ht] at h
          simp at h
        · rename_i ht
          rw [if_neg ht] at h
          split
          · rename_i hf
            rw [if_pos hf] at h
            simp at h
          · rename_i hf
            rw [if_neg hf] at h
            have htf := token_facts (s.data.toList.drop (k + (gap (s.data.toList.drop k)).1))
            rw [List.length_drop, size_len] at htf
            rcases htf with htf | ⟨_, _, h2, h3⟩
            · rw [htf] at ht; exact absurd rfl ht
            obtain ⟨tl, e, hne, hc⟩ := ih _ _ (by omega) h
            match tl, hne with
            | y :: l, _ =>
              refine ⟨_ :: y :: l, by rw [e, List.append_assoc]; rfl, by simp, ?_⟩
              exact ⟨_, _, by omega, h2, by omega, rfl, rfl, hc⟩
    · rename_i hg2
      rw [if_neg hg2] at h
      simp at h
theorem order_loop (s : ByteArray) (hs : s.size ≤ 8192) (l : List S31) (hl : l.length ≤ 2501) : ∀ (d n j k : Nat), j < l.length → l.length - j = d → d < n → Chain s k (l.drop j) →
    hauberklaw05_LexOrder.l0 n s l (k : Int) l (l.length : Int) (j : Int) = some true := by
  intro d
  induction d with
  | zero => intro n j k hj hd hn; omega
  | succ d ih =>
    intro n j k hj hd hn hc
    obtain ⟨n, rfl⟩ : ∃ m, n = m + 1 := ⟨n - 1, by omega⟩
    unfold hauberklaw05_LexOrder.l0
    have hrd : rd_T31 l (j : Int) = l[j] := by
      unfold rd_T31
      rw [Int.toNat_natCast, List.getD_eq_getElem?_getD, List.getElem?_eq_getElem hj]; rfl
    rw [List.drop_eq_getElem_cons hj, ← hrd] at hc
    obtain ⟨x, hx⟩ : ∃ x, x = rd_T31 l (j : Int) := ⟨_, rfl⟩
    rw [← hx] at hc ⊢
    clear hx hrd
    rw [if_pos (show (j : Int) < (l.length : Int) by omega), if_pos (show (0 : Int) ≤ (j : Int) by omega), if_pos (show (j : Int) < (l.length : Int) by omega)]
    by_cases hlast : j = l.length - 1
    · rw [wrap_small (by omega) (by omega), if_pos (by omega)]
      rw [List.drop_eq_nil_of_le (by omega)] at hc
      obtain rfl := hc
      simp
    · rw [wrap_small (by omega) (by omega), if_neg (by omega)]
      match hdr : l.drop (j + 1) with
      | [] =>
        have := congrArg List.length hdr
        simp at this; omega
      | y :: t =>
        rw [hdr] at hc
        obtain ⟨a, t2, hka, ht, hat, e2, e1, hc⟩ := hc
        have hsz : x.f1.size = t2 := by rw [e1]; simp; omega
        have hne : ¬ x.f1.toList = ([] : List UInt8) := by
          intro e
          rw [Lib.toList_data] at e
          have := size_len x.f1
          rw [e] at this
          simp at this; omega
        rw [e2, if_neg (by omega), if_neg hne, hsz, wrap_small (by omega) (by omega), if_neg (by omega), if_pos (by omega), wrap_small (by omega) (by omega), if_pos (by omega), if_pos (by omega)]
        rw [show (a : Int) + (t2 : Int) = ((a + t2 : Nat) : Int) by omega, Int.toNat_natCast, Int.toNat_natCast, ← e1, if_pos rfl, wrap_small (by omega) (by omega)]
        exact ih n (j + 1) (a + t2) (by omega) (by omega) (by omega) (by rw [hdr]; exact hc)
theorem lexL_none (s : ByteArray) : ∀ (n : Nat) (acc : List S31) (k : Nat), (lexL s n acc k).2.2 ≠ 0 → (lexL s n acc k).1 = [] := by
  intro n
  induction n with
  | zero => intro acc k h; rfl
  | succ n ih =>
    intro acc k h
    unfold lexL at h ⊢
    split
    · rename_i h1
      rw [if_pos h1] at h
      split
      · rename_i h2
        rw [if_pos h2] at h; exact absurd rfl h
      · rename_i h2
        rw [if_neg h2] at h
        split
        · rfl
        · rename_i h3
          rw [if_neg h3] at h
          split
          · rfl
          · rename_i h4
            rw [if_neg h4] at h
            exact ih _ _ h
    · rfl
theorem LexOrder : hauberklaw05_LexOrder.Pure := by
  intro a0 _
  obtain ⟨n, hn⟩ : ∃ n : Nat, 20000 ≤ n := ⟨20000, Nat.le_refl _⟩
  refine ⟨n + 2, ?_⟩
  unfold hauberklaw05_LexOrder.f
  rw [awake_plain _ (by omega)]
  simp only [Option.bind_some, if_true]
  rw [hauberklaw05_LexOrder.j0]
  by_cases h : (a0.size : Int) > 8192
  · rw [decide_eq_true h, if_pos rfl, awake_plain _ (by omega)]; rfl
  rw [decide_eq_false h, if_neg (by decide), lex_plain a0 _ (by omega)]
  simp only [Option.bind_some]
  have hl := lexR_len a0
  have hR : lexR a0 = lexL a0 (a0.size + 1) [] 0 := by unfold lexR; rw [if_neg (by omega)]
  by_cases h0 : (lexR a0).2.2 = 0
  · rw [if_pos h0]
    rw [hR] at h0
    obtain ⟨tl, e, hne, hc⟩ := lexL_chain a0 _ [] 0 (by omega) h0
    rw [List.nil_append] at e
    rw [← hR] at e
    have hpos : 0 < (lexR a0).1.length := by rw [e]; exact List.length_pos_iff.2 hne
    exact order_loop a0 (by omega) _ hl _ _ 0 0 hpos rfl (by omega) (by rw [List.drop_zero, e]; exact hc)
  · rw [if_neg h0]
    rw [hR] at h0 ⊢
    rw [lexL_none a0 _ _ _ h0]
    rfl
end Go.Proofs.YtjegaejdphmdgaaDoor.Print
