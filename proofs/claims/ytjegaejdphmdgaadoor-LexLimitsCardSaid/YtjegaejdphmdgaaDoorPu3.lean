/-
  The plain law LexLimits: rows of one sign and of blanks are read up to the limits.
-/
import Derived.Test.YtjegaejdphmdgaaDoorPu1
import Derived.Test.YtjegaejdphmdgaaDoorPrB5
namespace Go.Proofs.YtjegaejdphmdgaaDoor.Print
open Go.RowKit Go.Lib Go.Proofs.YtjegaejdphmdgaaDoorW.PrintWords Go.Proofs.YtjegaejdphmdgaaDoor.LexP
set_option linter.unusedVariables false

theorem gap_blanks : ∀ M : Nat, gap (List.replicate M 32) = (M, true)
  | 0 => rfl
  | M + 1 => by rw [List.replicate_succ, gap_blank (by rfl), gap_blanks M]
theorem gap_tilde (t : List UInt8) : gap (126 :: t) = (0, true) := gap_stop (by decide) (by simp [Lib.hasPrefix]) (by simp [Lib.hasPrefix])
theorem no_two (d : UInt8) : decide (((126 : UInt8), d) ∈ twos) = false := all_bytes (P := fun d => decide (((126 : UInt8), d) ∈ twos) = false) (by decide +kernel) d
theorem token_tilde (t : List UInt8) : token (126 :: t) = (3, 1) := by
  rw [token_cons, if_neg (by decide), if_neg (by decide), if_neg (by decide), if_neg, if_pos (by decide)]
  cases t with
  | nil => simp [headTwo]
  | cons d t => unfold headTwo; simp only []; rw [no_two]; decide
theorem row_drop (N M k : Nat) (h : k < N) : (List.replicate N (126 : UInt8) ++ List.replicate M 32).drop k = 126 :: (List.replicate (N - k - 1) 126 ++ List.replicate M 32) := by
  rw [List.drop_append_of_le_length (by simp; omega), List.drop_replicate]
  obtain ⟨m, hm⟩ : ∃ m, N - k = m + 1 := ⟨N - k - 1, by omega⟩
  rw [hm, List.replicate_succ]
  rfl
theorem tildes (s : ByteArray) (N M : Nat) (hs : s.data.toList = List.replicate N 126 ++ List.replicate M 32) : ∀ (d n : Nat) (acc : List S31) (k : Nat), k + d = N → acc.length = k → k ≤ 2500 → d < n →
    (N > 2500 → lexL s n acc k = ([], 2500, 3)) ∧ (N ≤ 2500 → (lexL s n acc k).2.2 = 0 ∧ (lexL s n acc k).1.length = N + 1) := by
  have hsz : s.size = N + M := by rw [← size_len, hs]; simp
  intro d
  induction d with
  | zero =>
    intro n acc k hk ha h25 hn
    obtain ⟨n, rfl⟩ : ∃ m, n = m + 1 := ⟨n - 1, by omega⟩
    have hkN : k = N := by omega
    have hd : s.data.toList.drop k = List.replicate M 32 := by rw [hs, hkN]; simp
    refine ⟨fun h => by omega, fun _ => ?_⟩
    unfold lexL
    rw [hd, gap_blanks, if_pos rfl, if_pos (by simp only []; omega)]
    exact ⟨rfl, by simp; omega⟩
  | succ d ih =>
    intro n acc k hk ha h25 hn
    obtain ⟨n, rfl⟩ : ∃ m, n = m + 1 := ⟨n - 1, by omega⟩
    have hd : s.data.toList.drop k = 126 :: (List.replicate (N - k - 1) 126 ++ List.replicate M 32) := by rw [hs]; exact row_drop N M k (by omega)
    have hstep : lexL s (n + 1) acc k = if acc.length = 2500 then ([], (k : Int), 3) else lexL s n (acc ++ [⟨3, s.extract k (k + 1), (k : Int)⟩]) (k + 1) := by
      conv => lhs; unfold lexL
      rw [hd, gap_tilde, if_pos rfl]
      simp only [Nat.add_zero]
      rw [if_neg (by omega), hd, token_tilde, if_neg (by decide)]
      rfl
    rw [hstep]
    by_cases hf : acc.length = 2500
    · rw [if_pos hf]
      exact ⟨fun _ => by rw [← ha, hf]; rfl, fun h => by omega⟩
    · rw [if_neg hf]
      exact ih n _ (k + 1) (by omega) (by simp; omega) (by omega) (by omega)
theorem limits_cases (R : List S31 × Int × Int) (N M : Nat) (hN : N < 2510) (hM : M < 8200) (h1 : 8192 < N + M → R.2.2 = 3 ∧ R.2.1 = 8192) (h2 : ¬ 8192 < N + M → 2500 < N → R.2.2 = 3 ∧ R.2.1 = 2500) (h3 : ¬ 8192 < N + M → ¬ 2500 < N → R.2.2 = 0 ∧ R.1.length = N + 1) :
    (if (wrap64 ((N : Int) + (M : Int))) > 8192 then (if R.2.2 = 3 then (some (R.2.1 == 8192)) else (some false)) else (if (N : Int) > 2500 then (if R.2.2 = 3 then (some (R.2.1 == 2500)) else (some false)) else (if R.2.2 = 0 then (some ((R.1.length : Int) == (wrap64 ((N : Int) + 1)))) else (some false)))) = some true := by
  rw [wrap_small (x := (N : Int) + (M : Int)) (by omega) (by omega), wrap_small (x := (N : Int) + 1) (by omega) (by omega)]
  by_cases h8 : 8192 < N + M
  · obtain ⟨e1, e2⟩ := h1 h8
    rw [if_pos (by omega), if_pos e1, e2]; rfl
  · rw [if_neg (by omega)]
    by_cases h25 : 2500 < N
    · obtain ⟨e1, e2⟩ := h2 h8 h25
      rw [if_pos (by omega), if_pos e1, e2]; rfl
    · obtain ⟨e1, e2⟩ := h3 h8 h25
      rw [if_neg (by omega), if_pos e1, e2]
      congr 1
      rw [beq_iff_eq]
      omega
theorem limits_lex (s : ByteArray) (N M : Nat) (hs : s.data.toList = List.replicate N 126 ++ List.replicate M 32) :
    (8192 < N + M → (lexR s).2.2 = 3 ∧ (lexR s).2.1 = 8192) ∧ (¬ 8192 < N + M → 2500 < N → (lexR s).2.2 = 3 ∧ (lexR s).2.1 = 2500) ∧ (¬ 8192 < N + M → ¬ 2500 < N → (lexR s).2.2 = 0 ∧ (lexR s).1.length = N + 1) := by
  have hsz : s.size = N + M := by rw [← size_len, hs]; simp
  have ht := tildes s N M hs N (s.size + 1) [] 0 (by omega) (List.length_nil) (Nat.zero_le _) (by omega)
  unfold lexR
  refine ⟨fun h => ?_, fun h h2 => ?_, fun h h2 => ?_⟩
  · rw [if_pos (by omega)]; exact ⟨rfl, rfl⟩
  · rw [if_neg (by omega), ht.1 h2]; exact ⟨rfl, rfl⟩
  · rw [if_neg (by omega)]; exact ht.2 (by omega)
theorem limits_end (s : ByteArray) (N M : Nat) (hs : s.data.toList = List.replicate N 126 ++ List.replicate M 32) (hN : N < 2510) (hM : M < 8200) (n : Nat) (hn : 8194 ≤ n) :
    ((lex_Lex.f n s).bind fun bt198 => (if (wrap64 ((N : Int) + (M : Int))) > 8192 then (if bt198.2.2 = 3 then (some (bt198.2.1 == 8192)) else (some false)) else (if (N : Int) > 2500 then (if bt198.2.2 = 3 then (some (bt198.2.1 == 2500)) else (some false)) else (if bt198.2.2 = 0 then (some ((bt198.1.length : Int) == (wrap64 ((N : Int) + 1)))) else (some false))))) = some true := by
  obtain ⟨h1, h2, h3⟩ := limits_lex s N M hs
  rw [lex_plain s n hn, Option.bind_some]
  exact limits_cases (lexR s) N M hN hM h1 h2 h3
theorem limits_loop (N M : Nat) (hN : N < 2510) (hM : M < 8200) : ∀ (d n i : Nat) (xs : List Int), xs.length = N + M → i + d = N + M → (∀ j, j < i → xs[j]? = some (if j < N then 126 else 32)) → d + 8196 ≤ n →
    hauberklaw05_LexLimits.l0 n (N : Int) (M : Int) xs ((N + M : Nat) : Int) (i : Int) = some true := by
  intro d
  induction d with
  | zero =>
    intro n i xs hl hi hx hn
    obtain ⟨n, rfl⟩ : ∃ m, n = m + 1 := ⟨n - 1, by omega⟩
    unfold hauberklaw05_LexLimits.l0
    rw [if_neg (by omega)]
    refine limits_end (strOfNums xs) N M ?_ hN hM n (by omega)
    rw [strOfNums_data]
    have hxs : xs = List.replicate N 126 ++ List.replicate M 32 := by
      apply List.ext_getElem?
      intro j
      by_cases hj : j < N + M
      · rw [hx j (by omega)]
        by_cases hjN : j < N
        · rw [if_pos hjN, List.getElem?_append_left (by simp; exact hjN), List.getElem?_replicate, if_pos hjN]
        · rw [if_neg hjN, List.getElem?_append_right (by simp; omega), List.getElem?_replicate, if_pos (by simp; omega)]
      · rw [List.getElem?_eq_none (by omega), List.getElem?_eq_none (by simp; omega)]
    rw [hxs, List.map_append, List.map_replicate, List.map_replicate]
    rfl
  | succ d ih =>
    intro n i xs hl hi hx hn
    obtain ⟨n, rfl⟩ : ∃ m, n = m + 1 := ⟨n - 1, by omega⟩
    unfold hauberklaw05_LexLimits.l0
    rw [if_pos (by omega), if_pos (by omega), if_pos (by omega)]
    simp only [Option.bind_some]
    rw [wrap_small (by omega) (by omega), Int.toNat_natCast]
    by_cases h : i < N
    · rw [if_pos (by omega)]
      refine ih n (i + 1) _ (by simp [hl]) (by omega) (fun j hj => ?_) (by omega)
      by_cases hji : j = i
      · subst hji; rw [List.getElem?_set_self (by simp; omega), if_pos h]
      · rw [List.getElem?_set_ne (by omega), List.getElem?_set_ne (by omega)]; exact hx j (by omega)
    · rw [if_neg (by omega)]
      refine ih n (i + 1) _ (by simp [hl]) (by omega) (fun j hj => ?_) (by omega)
      by_cases hji : j = i
      · subst hji; rw [List.getElem?_set_self (by omega), if_neg h]
      · rw [List.getElem?_set_ne (by omega)]; exact hx j (by omega)
theorem LexLimits : hauberklaw05_LexLimits.Pure := by
  intro a0 a1 _ _
  obtain ⟨n, hn⟩ : ∃ n : Nat, 40000 ≤ n := ⟨40000, Nat.le_refl _⟩
  refine ⟨n, ?_⟩
  unfold hauberklaw05_LexLimits.f
  rw [awake_plain _ (by omega)]
  simp only [Option.bind_some, if_true]
  have hk : ∀ (a : Int) (B : Int), 0 < B → B ≤ 8200 → ∃ N : Nat, (N : Int) < B ∧ wrap64 (Int.tmod (IntKind.u64.wrap a) B) = N := by
    intro a B hB hB2
    have h0 : 0 ≤ IntKind.u64.wrap a := by rw [IntKind.wrap_u64]; omega
    rw [Int.tmod_eq_emod_of_nonneg h0]
    have h1 := Int.emod_nonneg (IntKind.u64.wrap a) (show B ≠ 0 by omega)
    have h2 := Int.emod_lt_of_pos (IntKind.u64.wrap a) hB
    exact ⟨(IntKind.u64.wrap a % B).toNat, by omega, by rw [wrap_small h1 (by omega)]; omega⟩
  obtain ⟨N, hN, eN⟩ := hk a0 2510 (by omega) (by omega)
  obtain ⟨M, hM, eM⟩ := hk a1 8200 (by omega) (by omega)
  rw [eN, eM, wrap_small (by omega) (by omega), if_pos (by omega), if_pos (by omega)]
  rw [show ((N : Int) + (M : Int)).toNat = N + M by omega, List.length_replicate]
  exact limits_loop N M (by omega) (by omega) (N + M) n 0 _ (by simp) (by omega) (fun j hj => by omega) (by omega)
end Go.Proofs.YtjegaejdphmdgaaDoor.Print
