/-
  The plain law LexJoins: two texts with a line's end between have the tokens of the one, and then of the other.
-/
import Derived.Test.YtjegaejdphmdgaaDoorTh2
import Derived.Test.YtjegaejdphmdgaaDoorPu0
import Derived.Test.YtjegaejdphmdgaaDoorPrJ1
namespace Go.Proofs.YtjegaejdphmdgaaDoor.Print
open Go.RowKit Go.Lib Go.Proofs.YtjegaejdphmdgaaDoorW.PrintWords Go.Proofs.YtjegaejdphmdgaaDoor.LexP
set_option linter.unusedVariables false

theorem lexR_some (s : ByteArray) (hs : s.size ≤ 8192) (h : (lexR s).2.2 = 0) : ∃ ts, toksOf s.data.toList = some ts ∧ (lexR s).1.map pairOf = told ts := by
  unfold lexR at h ⊢
  rw [if_neg (by omega)] at h ⊢
  obtain ⟨ts, tl, h1, h2, h3⟩ := lexL_toks s _ [] 0 (by omega) h
  rw [List.drop_zero] at h1
  exact ⟨ts, h1, by rw [h2]; exact h3⟩
theorem some_lexR (s : ByteArray) (hs : s.size ≤ 8192) {ts : List (Nat × List UInt8)} (h : toksOf s.data.toList = some ts) (hl : ts.length ≤ 2500) : (lexR s).2.2 = 0 ∧ (lexR s).1.map pairOf = told ts := by
  unfold lexR
  rw [if_neg (by omega)]
  obtain ⟨tl, h1, h2, h3⟩ := toks_lexL s (s.size + 1) [] 0 ts (by omega) (by omega) (by rw [List.drop_zero]; exact h) (by simpa using hl)
  exact ⟨h1, by rw [h2]; exact h3⟩
theorem told_len (ts : List (Nat × List UInt8)) : (told ts).length = ts.length + 1 := by simp [told]
theorem bytes_ext {a b : ByteArray} (h : a.data.toList = b.data.toList) : a = b := by
  cases a; cases b; congr 1; exact Array.ext' h
theorem joins_loop (c x : List S31) (hcx : c.map pairOf = x.map pairOf) (hl : c.length ≤ 100000) : ∀ (d n j : Nat), j ≤ x.length → x.length - j = d → d < n →
    hauberklaw05_LexJoins.l0 n c x (x.length : Int) (j : Int) = some true := by
  have hlen : c.length = x.length := by have := congrArg List.length hcx; simpa using this
  intro d
  induction d with
  | zero =>
    intro n j hj hd hn
    obtain ⟨n, rfl⟩ : ∃ m, n = m + 1 := ⟨n - 1, by omega⟩
    rw [hauberklaw05_LexJoins.l0]
    rw [if_neg (show ¬ (j : Int) < (x.length : Int) by omega)]
  | succ d ih =>
    intro n j hj hd hn
    obtain ⟨n, rfl⟩ : ∃ m, n = m + 1 := ⟨n - 1, by omega⟩
    have hjx : j < x.length := by omega
    have hjc : j < c.length := by omega
    have e1 : rd_T31 c (j : Int) = c[j] := by unfold rd_T31; rw [Int.toNat_natCast, List.getD_eq_getElem?_getD, List.getElem?_eq_getElem hjc]; rfl
    have e2 : rd_T31 x (j : Int) = x[j] := by unfold rd_T31; rw [Int.toNat_natCast, List.getD_eq_getElem?_getD, List.getElem?_eq_getElem hjx]; rfl
    have e3 : pairOf c[j] = pairOf x[j] := by
      have := congrArg (fun l => l[j]?) hcx
      simp only [List.getElem?_map, List.getElem?_eq_getElem hjc, List.getElem?_eq_getElem hjx, Option.map_some, Option.some.injEq] at this
      exact this
    unfold pairOf at e3
    rw [Prod.mk.injEq] at e3
    rw [hauberklaw05_LexJoins.l0]
    rw [if_pos (show (j : Int) < (x.length : Int) by omega), if_pos (show (0 : Int) ≤ (j : Int) by omega), if_pos (show (j : Int) < (x.length : Int) by omega), if_pos (show (j : Int) < (c.length : Int) by omega), e1, e2, if_pos e3.1, if_pos (by rw [bytes_ext e3.2]), wrap_small (by omega) (by omega)]
    exact ih n (j + 1) (by omega) (by omega) (by omega)
theorem wrap_id {x y : Int} (h : x = y) (h1 : 0 ≤ y) (h2 : y ≤ 1000000) : wrap64 x = y := by subst h; unfold wrap64; omega
theorem joins_tail (c xa xb : List S31) (nA nB : Nat) (la : xa.length = nA + 1) (lb : xb.length = nB + 1) (lc : c.length = nA + nB + 1) (hA : nA ≤ 1000) (hB : nB ≤ 1000)
    (hx : c.map pairOf = (([] ++ xa.take nA) ++ xb).map pairOf) (n : Nat) (hn : 10000 ≤ n) :
    hauberklaw05_LexJoins.j2 n xa xb c ((c.length : Int) != (wrap64 ((wrap64 ((xa.length : Int) + (xb.length : Int))) - 1))) = some true := by
  have hw1 : wrap64 ((xa.length : Int) + (xb.length : Int)) = (xa.length : Int) + (xb.length : Int) := wrap_id rfl (by omega) (by omega)
  have hw2 : wrap64 (((xa.length : Int) + (xb.length : Int)) - 1) = (c.length : Int) := wrap_id (by omega) (by omega) (by omega)
  have hw3 : wrap64 ((xa.length : Int) - 1) = (nA : Int) := wrap_id (by omega) (by omega) (by omega)
  rw [hw1, hw2]
  obtain ⟨n, rfl⟩ : ∃ m, n = m + 1 := ⟨n - 1, by omega⟩
  rw [hauberklaw05_LexJoins.j2]
  rw [if_neg (by simp), hw3]
  simp only [Option.bind_some, Int.toNat_natCast]
  rw [if_pos (by omega), if_pos (by omega), if_pos (by simp; omega), if_pos (by simp; omega)]
  exact joins_loop c _ hx (by omega) _ n 0 (by omega) rfl (by simp; omega)
theorem LexJoins : hauberklaw05_LexJoins.Pure := by
  intro a0 a1 _ _
  obtain ⟨n, hn⟩ : ∃ n : Nat, 20000 ≤ n := ⟨20000, Nat.le_refl _⟩
  refine ⟨n + 2, ?_⟩
  unfold hauberklaw05_LexJoins.f
  rw [awake_plain _ (by omega)]
  simp only [Option.bind_some, if_true]
  by_cases h0 : (a0.size : Int) > 1000
  · rw [if_pos h0]
    rw [hauberklaw05_LexJoins.j0]
    rw [if_pos rfl, awake_plain _ (by omega)]
    rfl
  rw [if_neg h0]
  rw [hauberklaw05_LexJoins.j0]
  by_cases h1 : (a1.size : Int) > 1000
  · rw [if_pos (decide_eq_true h1), awake_plain _ (by omega)]
    rfl
  rw [if_neg (by simp; omega), lex_plain _ _ (by omega), lex_plain _ _ (by omega)]
  simp only [Option.bind_some]
  rw [hauberklaw05_LexJoins.j1]
  by_cases h2 : (lexR a0).2.2 = 0
  · by_cases h3 : (lexR a1).2.2 = 0
    · rw [if_pos h2, if_neg (by rw [h3]; decide)]
      have s0 : a0.size ≤ 1000 := by omega
      have s1 : a1.size ≤ 1000 := by omega
      have hs10 : (a0 ++ (⟨#[10]⟩ : ByteArray)).size = a0.size + 1 := by simp [ByteArray.size_append]; rfl
      have hs : ((a0 ++ (⟨#[10]⟩ : ByteArray)) ++ a1).size = a0.size + 1 + a1.size := by rw [ByteArray.size_append, hs10]
      rw [if_pos (by omega), if_pos (by omega), lex_plain _ _ (by omega)]
      simp only [Option.bind_some]
      obtain ⟨A, hA, hA2⟩ := lexR_some a0 (by omega) h2
      obtain ⟨B, hB, hB2⟩ := lexR_some a1 (by omega) h3
      have zA := (toks_sizes _ _ A (Nat.le_refl _) hA).1
      have zB := (toks_sizes _ _ B (Nat.le_refl _) hB).1
      have l0 : a0.data.toList.length = a0.size := by rw [Array.length_toList]; rfl
      have l1 : a1.data.toList.length = a1.size := by rw [Array.length_toList]; rfl
      have hd : ((a0 ++ (⟨#[10]⟩ : ByteArray)) ++ a1).data.toList = a0.data.toList ++ 10 :: a1.data.toList := by simp [ByteArray.data_append]
      obtain ⟨hC, hC2⟩ := some_lexR ((a0 ++ (⟨#[10]⟩ : ByteArray)) ++ a1) (by omega) (by rw [hd]; exact join_toks hA hB) (by simp; omega)
      generalize (lexR ((a0 ++ (⟨#[10]⟩ : ByteArray)) ++ a1)).1 = c at *
      generalize (lexR a0).1 = xa at *
      generalize (lexR a1).1 = xb at *
      have la : xa.length = A.length + 1 := by have := congrArg List.length hA2; rw [told_len] at this; simpa using this
      have lb : xb.length = B.length + 1 := by have := congrArg List.length hB2; rw [told_len] at this; simpa using this
      have lc : c.length = A.length + B.length + 1 := by have := congrArg List.length hC2; rw [told_len] at this; simpa using this
      rw [if_pos hC]
      have hx : c.map pairOf = (([] ++ xa.take A.length) ++ xb).map pairOf := by
        rw [hC2, List.nil_append, List.map_append, hB2, List.map_take, hA2]
        unfold told
        rw [List.map_append, List.append_assoc, List.take_left' (by simp)]
      exact joins_tail c xa xb A.length B.length la lb lc (Nat.le_trans zA (by rw [l0]; exact s0)) (Nat.le_trans zB (by rw [l1]; exact s1)) hx n (Nat.le_trans (by decide) hn)
    · rw [if_pos h2, if_pos (by simpa using h3)]
  · rw [if_neg h2, hauberklaw05_LexJoins.j1, if_pos rfl]
end Go.Proofs.YtjegaejdphmdgaaDoor.Print
