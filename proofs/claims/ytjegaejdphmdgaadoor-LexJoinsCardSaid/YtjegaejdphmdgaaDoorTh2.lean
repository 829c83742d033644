/-
  What 'lexR' tells, in the words of 'toksOf'; the lists of two texts joined, of a text with gaps between.
-/
import Derived.Test.YtjegaejdphmdgaaDoorTh
namespace Go.Proofs.YtjegaejdphmdgaaDoor.Print
open Go.RowKit Go.Lib Go.Proofs.YtjegaejdphmdgaaDoorW.PrintWords Go.Proofs.YtjegaejdphmdgaaDoor.LexP
set_option linter.unusedVariables false

def pairOf (x : S31) : Int × List UInt8 := (x.f0, x.f1.data.toList)
def told (ts : List (Nat × List UInt8)) : List (Int × List UInt8) := ts.map (fun p => ((p.1 : Int), p.2)) ++ [(0, [])]
theorem toks_step (l : List UInt8) : toksOf l = if (gap l).2 = true then
      if l.length ≤ (gap l).1 then some []
      else if (token (l.drop (gap l).1)).1 = 0 then none
      else (toksOf ((l.drop (gap l).1).drop (token (l.drop (gap l).1)).2)).map fun ts => ((token (l.drop (gap l).1)).1, (l.drop (gap l).1).take (token (l.drop (gap l).1)).2) :: ts
    else none := by
  unfold toksOf
  conv => lhs; unfold toks
  by_cases h1 : (gap l).2 = true
  · rw [if_pos h1, if_pos h1]
    by_cases h2 : l.length ≤ (gap l).1
    · rw [if_pos h2, if_pos h2]
    · rw [if_neg h2, if_neg h2]
      by_cases h3 : (token (l.drop (gap l).1)).1 = 0
      · rw [if_pos h3, if_pos h3]
      · rw [if_neg h3, if_neg h3]
        have hf := token_facts (l.drop (gap l).1)
        rcases hf with hf | ⟨_, _, q2, q3⟩
        · rw [hf] at h3; exact absurd rfl h3
        rw [List.length_drop] at q3
        rw [toks_of _ _ (by simp; omega)]
        rfl
  · rw [if_neg h1, if_neg h1]
theorem lexL_toks (s : ByteArray) : ∀ (n : Nat) (acc : List S31) (k : Nat), k ≤ s.size → (lexL s n acc k).2.2 = 0 → ∃ ts tl, toksOf (s.data.toList.drop k) = some ts ∧ (lexL s n acc k).1 = acc ++ tl ∧ tl.map pairOf = told ts := by
  intro n
  induction n with
  | zero => intro acc k hk h; simp [lexL] at h
  | succ n ih =>
    intro acc k hk h
    have hg := gap_drop s k hk
    have hlen : (s.data.toList.drop k).length = s.size - k := by rw [List.length_drop, size_len]
    rw [toks_step]
    unfold lexL at h ⊢
    by_cases hg2 : (gap (s.data.toList.drop k)).2 = true
    · rw [if_pos hg2] at h ⊢
      rw [if_pos hg2]
      by_cases he : k + (gap (s.data.toList.drop k)).1 = s.size
      · rw [if_pos he, if_pos (by omega)]
        exact ⟨[], _, rfl, rfl, rfl⟩
      · rw [if_neg he] at h ⊢
        rw [if_neg (by omega), List.drop_drop]
        by_cases ht : (token (s.data.toList.drop (k + (gap (s.data.toList.drop k)).1))).1 = 0
        · rw [if_pos ht] at h; simp at h
        rw [if_neg ht] at h ⊢
        rw [if_neg ht]
        by_cases hf : acc.length = 2500
        · rw [if_pos hf] at h; simp at h
        rw [if_neg hf] at h ⊢
        have htf := token_facts (s.data.toList.drop (k + (gap (s.data.toList.drop k)).1))
        rw [List.length_drop, size_len] at htf
        rcases htf with htf | ⟨_, _, h2, h3⟩
        · rw [htf] at ht; exact absurd rfl ht
        obtain ⟨ts, tl, e1, e2, e3⟩ := ih _ _ (by omega) h
        rw [List.drop_drop, e1]
        refine ⟨_ :: ts, _ :: tl, rfl, by rw [e2, List.append_assoc]; rfl, ?_⟩
        unfold told at e3 ⊢
        rw [List.map_cons, e3, List.map_cons, List.cons_append]
        congr 1
        simp only [pairOf, cut_from, Nat.add_sub_cancel_left]
    · rw [if_neg hg2] at h; simp at h
theorem toks_lexL (s : ByteArray) : ∀ (n : Nat) (acc : List S31) (k : Nat) (ts : List (Nat × List UInt8)), k ≤ s.size → s.size - k < n → toksOf (s.data.toList.drop k) = some ts → acc.length + ts.length ≤ 2500 →
    ∃ tl, (lexL s n acc k).2.2 = 0 ∧ (lexL s n acc k).1 = acc ++ tl ∧ tl.map pairOf = told ts := by
  intro n
  induction n with
  | zero => intro acc k ts hk h; omega
  | succ n ih =>
    intro acc k ts hk hn h hl
    have hg := gap_drop s k hk
    have hlen : (s.data.toList.drop k).length = s.size - k := by rw [List.length_drop, size_len]
    rw [toks_step] at h
    unfold lexL
    by_cases hg2 : (gap (s.data.toList.drop k)).2 = true
    · rw [if_pos hg2] at h
      rw [if_pos hg2]
      by_cases he : k + (gap (s.data.toList.drop k)).1 = s.size
      · rw [if_pos (by omega)] at h
        rw [if_pos he]
        obtain rfl := Option.some.inj h
        exact ⟨_, rfl, rfl, rfl⟩
      · rw [if_neg (by omega), List.drop_drop] at h
        rw [if_neg he]
        by_cases ht : (token (s.data.toList.drop (k + (gap (s.data.toList.drop k)).1))).1 = 0
        · rw [if_pos ht] at h; cases h
        rw [if_neg ht] at h
        rw [if_neg ht]
        obtain ⟨ts', e1, rfl⟩ := Option.map_eq_some_iff.1 h
        rw [List.drop_drop] at e1
        simp only [List.length_cons] at hl
        rw [if_neg (by omega)]
        have htf := token_facts (s.data.toList.drop (k + (gap (s.data.toList.drop k)).1))
        rw [List.length_drop, size_len] at htf
        rcases htf with htf | ⟨_, _, h2, h3⟩
        · rw [htf] at ht; exact absurd rfl ht
        obtain ⟨tl, q1, q2, q3⟩ := ih (acc ++ [⟨((token (s.data.toList.drop (k + (gap (s.data.toList.drop k)).1))).1 : Int), s.extract (k + (gap (s.data.toList.drop k)).1) (k + (gap (s.data.toList.drop k)).1 + (token (s.data.toList.drop (k + (gap (s.data.toList.drop k)).1))).2), ((k + (gap (s.data.toList.drop k)).1 : Nat) : Int)⟩]) _ ts' (by omega) (by omega) e1 (by simp; omega)
        refine ⟨_ :: tl, q1, by rw [q2, List.append_assoc]; rfl, ?_⟩
        unfold told at q3 ⊢
        rw [List.map_cons, q3, List.map_cons, List.cons_append]
        congr 1
        simp only [pairOf, cut_from, Nat.add_sub_cancel_left]
    · rw [if_neg hg2] at h; cases h
theorem toks_sizes : ∀ (n : Nat) (l : List UInt8) (ts : List (Nat × List UInt8)), l.length ≤ n → toksOf l = some ts → ts.length ≤ l.length ∧ (ts.map (·.2.length)).sum ≤ l.length ∧
    ∀ p ∈ ts, p.1 ≠ 0 ∧ token p.2 = (p.1, p.2.length) := by
  intro n
  induction n with
  | zero =>
    intro l ts hl h
    have : l = [] := List.eq_nil_of_length_eq_zero (by omega)
    subst this
    rw [toks_step, if_pos (by rfl), if_pos (by simp)] at h
    obtain rfl := Option.some.inj h
    simp
  | succ n ih =>
    intro l ts hl h
    rw [toks_step] at h
    by_cases h1 : (gap l).2 = true
    · rw [if_pos h1] at h
      by_cases h2 : l.length ≤ (gap l).1
      · rw [if_pos h2] at h
        obtain rfl := Option.some.inj h
        simp
      · rw [if_neg h2] at h
        by_cases h3 : (token (l.drop (gap l).1)).1 = 0
        · rw [if_pos h3] at h; cases h
        rw [if_neg h3] at h
        obtain ⟨ts', e1, rfl⟩ := Option.map_eq_some_iff.1 h
        have hf := token_facts (l.drop (gap l).1)
        rcases hf with hf | ⟨_, _, q2, q3⟩
        · rw [hf] at h3; exact absurd rfl h3
        have q3' := q3
        rw [List.length_drop] at q3'
        obtain ⟨r1, r2, r3⟩ := ih _ ts' (by simp; omega) e1
        have hlt : ((l.drop (gap l).1).take (token (l.drop (gap l).1)).2).length = (token (l.drop (gap l).1)).2 := by rw [List.length_take]; omega
        refine ⟨?_, ?_, ?_⟩
        · simp at r1 ⊢; omega
        · simp only [List.map_cons, List.sum_cons, hlt]
          simp at r2 ⊢; omega
        · intro p hp
          rcases List.mem_cons.1 hp with rfl | hp
          · exact ⟨h3, by rw [tok_self _ h3, hlt]⟩
          · exact r3 p hp
    · rw [if_neg h1] at h; cases h
/-! ### a text with gaps between -/
theorem gap_tok {x : List UInt8} {k : Nat} (hk : k ≠ 0) (h : token x = (k, x.length)) (b : UInt8) (rest : List UInt8) (hb : isBlank b = true) : gap (x ++ b :: rest) = (0, true) := by
  match x with
  | [] => have : (token []).1 = k := by rw [h]
          exact absurd this.symm hk
  | c :: t =>
    have hne : ¬ isBlank c = true := by
      intro hc
      obtain ⟨_, hl, hd, h39, ho, _, _⟩ := blank_not c hc
      have : (token (c :: t)).1 = 0 := by
        rw [token_cons, if_neg (by rw [hl]; decide), if_neg (by rw [hd]; decide), if_neg h39, if_neg, if_neg ho]
        cases t with
        | nil => simp [headTwo]
        | cons d t => unfold headTwo; simp only []; rw [decide_eq_false (blank_two d c hc).2]; decide
      rw [h] at this
      exact hk this
    have hslash : c = 47 → t = [] := by
      intro hc
      subst hc
      rw [token_cons, if_neg (by decide), if_neg (by decide), if_neg (by decide)] at h
      have : headTwo (47 :: t) = false := by
        cases t with
        | nil => rfl
        | cons d t => unfold headTwo; simp only []; exact all_bytes (P := fun d => decide (((47 : UInt8), d) ∈ twos) = false) (by decide +kernel) d
      rw [if_neg (by rw [this]; decide), if_pos (by decide)] at h
      have := congrArg Prod.snd h
      simp at this
      exact this
    obtain ⟨_, _, _, _, _, hb47, hb42⟩ := blank_not b hb
    rw [List.cons_append]
    refine gap_stop hne ?_ ?_
    · intro hp
      have hc := prefix_head hp
      rw [hslash hc] at hp
      simp [Lib.hasPrefix] at hp
      exact hb47 hp.2.symm
    · intro hp
      have hc := prefix_head hp
      rw [hslash hc] at hp
      simp [Lib.hasPrefix] at hp
      exact hb42 hp.2.symm
/-- Each token's text, and a gap behind it. -/
def render : List (Nat × List UInt8) → List (List UInt8) → List UInt8
  | p :: ts, g :: gs => p.2 ++ g ++ render ts gs
  | _, _ => []
def Sep (g : List UInt8) : Prop := Runs g ∧ ∃ b t, g = b :: t ∧ isBlank b = true
theorem toks_render : ∀ (ts : List (Nat × List UInt8)) (gs : List (List UInt8)), ts.length = gs.length → (∀ p ∈ ts, p.1 ≠ 0 ∧ token p.2 = (p.1, p.2.length)) → (∀ g ∈ gs, Sep g) → toksOf (render ts gs) = some ts
  | [], [], _, _, _ => by
    show toksOf [] = some []
    rw [toks_step, if_pos (by rfl), if_pos (by simp)]
  | [], _ :: _, h, _, _ => by simp at h
  | _ :: _, [], h, _, _ => by simp at h
  | p :: ts, g :: gs, hl, hp, hg => by
    obtain ⟨hk, htk⟩ := hp p (by simp)
    obtain ⟨hrun, b, t, rfl, hb⟩ := hg g (by simp)
    have ih := toks_render ts gs (by simpa using hl) (fun q hq => hp q (by simp [hq])) (fun q hq => hg q (by simp [hq]))
    have e0 : render (p :: ts) ((b :: t) :: gs) = p.2 ++ b :: (t ++ render ts gs) := by simp [render]
    have hgap := gap_tok hk htk b (t ++ render ts gs) hb
    have htk2 := tok_app p.2 b (t ++ render ts gs) hb (by rw [htk]; exact hk)
    have hpl : 1 ≤ p.2.length := by
      have := token_facts p.2
      rw [htk] at this
      rcases this with e | ⟨_, _, q, _⟩
      · injection e with e _; exact absurd e hk
      · exact q
    rw [toks_step, e0, hgap, if_pos rfl, if_neg (by simp), List.drop_zero, htk2, htk]
    simp only []
    rw [if_neg hk, List.drop_left' rfl, List.take_left' rfl]
    have e2 : toksOf (b :: (t ++ render ts gs)) = some ts := by
      rw [← List.cons_append]
      unfold toksOf
      rw [toks_runs hrun, toks_of _ _ (by simp; omega)]
      exact ih
    rw [e2]
    rfl
theorem runs_blank {b : UInt8} {g : List UInt8} (hb : isBlank b = true) (h : Runs g) : Runs (b :: g) := by
  intro rest
  rw [List.cons_append, gap_blank hb, h rest]
  simp; omega
theorem runs_nil : Runs [] := fun rest => by simp
theorem runs_remark : Runs [47, 42, 32, 42, 47] := by
  intro rest
  have e : Lib.index (([47, 42, 32, 42, 47] ++ rest).drop 2) [42, 47] = 1 := by
    show Lib.index (32 :: 42 :: 47 :: rest) [42, 47] = 1
    have e0 : Lib.index (42 :: 47 :: rest) [42, 47] = 0 := by rw [index_cons, if_pos (by simp [List.isPrefixOf])]
    rw [index_cons, if_neg (by simp [List.isPrefixOf]), e0]
    rfl
  show gap (47 :: (42 :: 32 :: 42 :: 47 :: rest)) = _
  rw [gap_remark (by decide) (by simp [Lib.hasPrefix]) (by simp [Lib.hasPrefix]) (by rw [show (47 :: 42 :: 32 :: 42 :: 47 :: rest : List UInt8) = [47, 42, 32, 42, 47] ++ rest from rfl, e]; decide)]
  rw [show (47 :: 42 :: 32 :: 42 :: 47 :: rest : List UInt8) = [47, 42, 32, 42, 47] ++ rest from rfl, e]
  rfl
theorem runs_line : Runs [47, 47, 32, 39, 10] := by
  intro rest
  have e : Lib.indexByte (47 :: 47 :: 32 :: 39 :: 10 :: rest) 10 = 4 := by
    simp [Lib.indexByte]
  show gap (47 :: (47 :: 32 :: 39 :: 10 :: rest)) = _
  rw [gap_line (by decide) (by simp [Lib.hasPrefix]) (by rw [e]; decide), e]
  show (4 + (gap (10 :: rest)).1, (gap (10 :: rest)).2) = _
  rw [gap_blank (by rfl)]
  simp; omega
def sepOf (i : Nat) : List UInt8 := match i % 4 with | 0 => [32] | 1 => [9, 10] | 2 => [32, 47, 42, 32, 42, 47, 32] | _ => [32, 47, 47, 32, 39, 10]
theorem runs_app {g h : List UInt8} (hg : Runs g) (hh : Runs h) : Runs (g ++ h) := by
  intro rest
  rw [List.append_assoc, hg, hh]
  simp; omega
theorem sep_ok (i : Nat) : Sep (sepOf i) ∧ (sepOf i).length ≤ 7 := by
  unfold sepOf
  split
  · exact ⟨⟨runs_blank (by rfl) runs_nil, _, _, rfl, by rfl⟩, by simp⟩
  · exact ⟨⟨runs_blank (by rfl) (runs_blank (by rfl) runs_nil), _, _, rfl, by rfl⟩, by simp⟩
  · exact ⟨⟨runs_blank (by rfl) (runs_app runs_remark (runs_blank (by rfl) runs_nil)), _, _, rfl, by rfl⟩, by simp⟩
  · exact ⟨⟨runs_blank (by rfl) runs_line, _, _, rfl, by rfl⟩, by simp⟩
end Go.Proofs.YtjegaejdphmdgaaDoor.Print
