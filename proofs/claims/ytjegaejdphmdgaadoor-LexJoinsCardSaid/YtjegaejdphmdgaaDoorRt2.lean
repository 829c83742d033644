/-
  hauberkref05.token: the token that stands at a place, walked whole.
-/
import Derived.Test.YtjegaejdphmdgaaDoorRtok
import Derived.Test.YtjegaejdphmdgaaDoorTok
import Derived.Deep.DeepCutAuto
import Derived.Deep.CutBlock
import Derived.LoopTactic
namespace Go.Proofs.YtjegaejdphmdgaaDoor.Print
open Go.RowKit Go.Lib Go.Proofs.YtjegaejdphmdgaaDoorW.PrintWords Go.Proofs.YtjegaejdphmdgaaDoor.LexP
set_option linter.unusedVariables false
def twoStr (j : Nat) : ByteArray := (twos.map fun l => (⟨#[l.1, l.2]⟩ : ByteArray)).getD j ByteArray.empty
def twoArr : Array Value := (twos.map fun l => Value.string ⟨#[l.1, l.2]⟩).toArray
theorem twoArr_at (j : Nat) (hj : j < 9) : twoArr[j]? = some (.string (twoStr j)) := by
  have H : ∀ j : Fin 9, twoArr[j.val]? = some (.string (twoStr j.val)) := by
    intro j
    match j with
    | 0 => rfl | 1 => rfl | 2 => rfl | 3 => rfl | 4 => rfl | 5 => rfl | 6 => rfl | 7 => rfl | 8 => rfl
  exact H ⟨j, hj⟩
theorem twoStr_data (j : Nat) (hj : j < 9) : (twoStr j).data.toList = [(twos.getD j (0, 0)).1, (twos.getD j (0, 0)).2] ∧ (twoStr j).size ≤ 100 := by
  have H : ∀ j : Fin 9, (twoStr j.val).data.toList = [(twos.getD j.val (0, 0)).1, (twos.getD j.val (0, 0)).2] ∧ (twoStr j.val).size ≤ 100 := by decide +kernel
  exact H ⟨j, hj⟩
theorem mem_twos {p : UInt8 × UInt8} : p ∈ twos ↔ ∃ j, j < 9 ∧ twos.getD j (0, 0) = p := by
  constructor
  · intro h
    obtain ⟨j, hj, he⟩ := List.getElem_of_mem h
    exact ⟨j, hj, by rw [List.getD_eq_getElem?_getD, List.getElem?_eq_getElem hj, he]; rfl⟩
  · rintro ⟨j, hj, rfl⟩
    rw [List.getD_eq_getElem?_getD, List.getElem?_eq_getElem (show j < twos.length from hj)]
    exact List.getElem_mem _
theorem span_cons (c : UInt8) (t : List UInt8) : span (c :: t) = if isWordB c then span t + 1 else 0 := by
  unfold span
  rw [List.takeWhile_cons]
  split <;> simp
/-- Is there a sign of two bytes at the head? -/
def headTwo (l : List UInt8) : Bool := match l with | c :: d :: _ => decide ((c, d) ∈ twos) | _ => false
theorem prefix_two {l : List UInt8} {a b : UInt8} : Lib.hasPrefix l [a, b] = true ↔ ∃ t, l = a :: b :: t := by
  unfold Lib.hasPrefix
  match l with
  | [] => simp [List.isPrefixOf]
  | [c] => simp [List.isPrefixOf]
  | c :: d :: t => simp [List.isPrefixOf]; constructor <;> (rintro ⟨h1, h2⟩; exact ⟨h1.symm, h2.symm⟩)
theorem headTwo_yes {l : List UInt8} {j : Nat} (hj : j < 9) (h : Lib.hasPrefix l [(twos.getD j (0, 0)).1, (twos.getD j (0, 0)).2] = true) : headTwo l = true := by
  obtain ⟨t, rfl⟩ := prefix_two.1 h
  exact decide_eq_true (mem_twos.2 ⟨j, hj, rfl⟩)
theorem headTwo_no {l : List UInt8} (h : ∀ j, j < 9 → ¬ Lib.hasPrefix l [(twos.getD j (0, 0)).1, (twos.getD j (0, 0)).2] = true) : headTwo l = false := by
  unfold headTwo
  split
  · rename_i c d t
    refine decide_eq_false fun hm => ?_
    obtain ⟨j, hj, e⟩ := mem_twos.1 hm
    exact h j hj (by rw [e]; exact prefix_two.2 ⟨t, rfl⟩)
  · rfl
theorem token_cons (c : UInt8) (t : List UInt8) : token (c :: t) =
    if isLetter c then
      if (c :: t).takeWhile isWordB ∈ words then (4, span (c :: t))
      else if 32 < span (c :: t) then (0, 0) else (1, span (c :: t))
    else if isDigit c then
      if (mean ((c :: t).takeWhile isWordB)).isSome then (2, span (c :: t)) else (0, 0)
    else if c = 39 then
      if (mean ((c :: t).take 3)).isSome then (2, 3) else (0, 0)
    else if headTwo (c :: t) then (3, 2)
    else if c ∈ ones then (3, 1)
    else (0, 0) := by
  unfold token headTwo
  cases t <;> rfl
theorem cut_from (s : ByteArray) (k n : Nat) : (s.extract k n).data.toList = (s.data.toList.drop k).take (n - k) := by
  rw [Lib.extract_data]

set_option maxHeartbeats 4000000 in
set_option maxRecDepth 100000 in
theorem rtoken_any (s : ByteArray) (k : Nat) (w : World) (hL : Laid w) (hs : s.size < 4294967281) (hk : k < s.size) :
    Calls Tryd.prog 19 #[.string s, .int .i64 k] w fun e w' => e = .returned (.tuple #[.int .i64 (rtok s k).1, .int .i64 (rtok s k).2]) ∧ Below w.heap.size w w' := by
  obtain ⟨E, hE⟩ : ∃ E, E = k + span (s.data.toList.drop k) := ⟨_, rfl⟩
  have hkE : k ≤ E := by omega
  have hEs : E ≤ s.size := by
    have := span_le (s.data.toList.drop k)
    rw [List.length_drop, size_len] at this
    omega
  have HE := Lib.hid hE; clear hE
  obtain ⟨c, hi, hdrop⟩ := drop_at s k hk
  obtain ⟨t, ht⟩ : ∃ t, t = s.data.toList.drop (k + 1) := ⟨_, rfl⟩
  rw [← ht] at hdrop; clear ht
  have HD := Lib.hid hdrop; clear hdrop
  obtain ⟨R1, hR1⟩ : ∃ R : Int, R = (rtok s k).1 := ⟨_, rfl⟩
  obtain ⟨R2, hR2⟩ : ∃ R : Int, R = (rtok s k).2 := ⟨_, rfl⟩
  rw [← hR1, ← hR2]
  have HR : Hid (R1 = (rtok s k).1 ∧ R2 = (rtok s k).2) := Lib.hid ⟨hR1, hR2⟩
  clear hR1 hR2
  have HLd := Lib.hid hL; clear hL
  go_enter Tryd.func19, Tryd.ntmps19
  go_upto_block 0 with (fail)
  go_cut [6] (fun v6 wc => v6 = .int .i64 E ∧ wc = w)
  case first =>
    clear HR HD hi HLd
    go_wp2
    go_loop [6] (fun va => ∃ j : Nat, k ≤ j ∧ j ≤ s.size ∧ va = .int .i64 j ∧ Hid (E = j + span (s.data.toList.drop j))) (fun va => s.size - (intOf va).toNat)
    case atStart => exact ⟨k, by omega, by omega, rfl, HE⟩
    case round =>
      clear HE
      obtain ⟨j, hkj, hj, rfl, hh⟩ := hrel
      by_cases hlt : j < s.size
      · obtain ⟨d, hdi, hdd⟩ := drop_at s j hlt
        have hg := hh.out
        rw [hdd, span_cons] at hg
        by_cases hl : isLetter d = true
        · have Hl := Lib.hid hl
          have HG := Lib.hid (show E = j + 1 + span (s.data.toList.drop (j + 1)) by rw [if_pos (by unfold isWordB; rw [hl]; rfl)] at hg; omega)
          clear hg hh hdd hl
          go_wp2_with (go_at_call 35; (with_reducible refine (rletter_c d _).mono ?_); rintro e w' ⟨rfl, rfl⟩; rw [Hl.out])
          go_round
          case rel => exact ⟨j + 1, by omega, by omega, by go_num, HG⟩
          case measure => simp [intOf]; omega
        · by_cases hd : isDigit d = true
          · have Hl := Lib.hid (Bool.eq_false_iff.2 hl)
            have Hd := Lib.hid hd
            have HG := Lib.hid (show E = j + 1 + span (s.data.toList.drop (j + 1)) by rw [if_pos (by unfold isWordB; rw [hd]; simp)] at hg; omega)
            clear hg hh hdd hl hd
            go_wp2_with (first | (go_at_call 35; (with_reducible refine (rletter_c d _).mono ?_); rintro e w' ⟨rfl, rfl⟩; rw [Hl.out]) | (go_at_call 25; (with_reducible refine (rdigit_c d _).mono ?_); rintro e w' ⟨rfl, rfl⟩; rw [Hd.out]))
            go_round
            case rel => exact ⟨j + 1, by omega, by omega, by go_num, HG⟩
            case measure => simp [intOf]; omega
          · have Hl := Lib.hid (Bool.eq_false_iff.2 hl)
            have Hd := Lib.hid (Bool.eq_false_iff.2 hd)
            have HG : E = j := by rw [if_neg (by unfold isWordB; rw [Hl.out, Hd.out]; decide)] at hg; omega
            clear hg hh hdd hl hd
            subst HG
            go_wp2_with (first | (go_at_call 35; (with_reducible refine (rletter_c d _).mono ?_); rintro e w' ⟨rfl, rfl⟩; rw [Hl.out]) | (go_at_call 25; (with_reducible refine (rdigit_c d _).mono ?_); rintro e w' ⟨rfl, rfl⟩; rw [Hd.out]))
            go_meet
            case rel => exact ⟨rfl, rfl⟩
      · obtain rfl : j = s.size := by omega
        have hg := hh.out
        rw [List.drop_eq_nil_of_le (by rw [size_len]; exact Nat.le_refl _)] at hg
        obtain rfl : E = s.size := hg
        clear hh
        go_wp2
        go_meet
        case rel => exact ⟨rfl, rfl⟩
  case rest =>
    obtain ⟨rfl, rfl⟩ := hcut
    have Hsp := Lib.hid (show span (c :: t) = E - k by rw [← HD.out]; have := HE.out; omega)
    have HCut := Lib.hid (show (s.extract k E).data.toList = (c :: t).takeWhile isWordB by rw [cut_from, HD.out, ← Hsp.out, take_span])
    clear HE
    have HRt := Lib.hid (show R1 = (if (token (c :: t)).1 = 0 then (0, 0) else (((token (c :: t)).1 : Int), (k : Int) + ((token (c :: t)).2 : Int))).1 ∧ R2 = (if (token (c :: t)).1 = 0 then (0, 0) else (((token (c :: t)).1 : Int), (k : Int) + ((token (c :: t)).2 : Int))).2 by
      have := HR.out
      unfold rtok at this
      rw [HD.out] at this
      exact this)
    have hcs : (s.extract k E).size ≤ 140737488351232 := by simp; omega
    have Hcs := Lib.hid hcs
    clear hcs HR
    by_cases hl : isLetter c = true
    · have Hl := Lib.hid hl
      clear hl
      by_cases hw : (c :: t).takeWhile isWordB ∈ words
      · have HT : Hid (R1 = 4 ∧ R2 = (E : Int)) := Lib.hid (by
          have := HRt.out
          have hT' := token_cons c t
          rw [if_pos Hl.out, if_pos hw, Hsp.out] at hT'
          rw [hT'] at this
          exact ⟨this.1, by rw [this.2]; simp; omega⟩)
        have Hw := Lib.hid hw
        clear hw HRt
        go_wp2_with (first | (go_at_call 35; (with_reducible refine (rletter_c c _).mono ?_); rintro e w' ⟨rfl, rfl⟩; rw [Hl.out]) | (go_at_call 36; (with_reducible refine (rword_yes _ _ (by rw [HCut.out]; exact Hw.out)).mono ?_); rintro e w' ⟨rfl, hb⟩))
        go_ret2
        exact ⟨by rw [HT.out.1, HT.out.2]; rfl, hb⟩
      · have Hw := Lib.hid hw
        clear hw
        by_cases h32 : (32 : Int) < (E : Int) - (k : Int)
        · have HT : Hid (R1 = 0 ∧ R2 = 0) := Lib.hid (by
            have := HRt.out
            have hT' := token_cons c t
            rw [if_pos Hl.out, if_neg Hw.out, Hsp.out, if_pos (show 32 < E - k by omega)] at hT'
            rw [hT'] at this
            exact ⟨this.1, this.2⟩)
          clear HRt
          go_wp2_with (first | (go_at_call 35; (with_reducible refine (rletter_c c _).mono ?_); rintro e w' ⟨rfl, rfl⟩; rw [Hl.out]) | (go_at_call 36; (with_reducible refine (rword_no _ _ (by rw [HCut.out]; exact Hw.out)).mono ?_); rintro e w' ⟨rfl, hb⟩))
          go_ret2
          exact ⟨by rw [HT.out.1, HT.out.2]; rfl, hb⟩
        · have HT : Hid (R1 = 1 ∧ R2 = (E : Int)) := Lib.hid (by
            have := HRt.out
            have hT' := token_cons c t
            rw [if_pos Hl.out, if_neg Hw.out, Hsp.out, if_neg (show ¬ 32 < E - k by omega)] at hT'
            rw [hT'] at this
            exact ⟨this.1, by rw [this.2]; simp; omega⟩)
          clear HRt
          go_wp2_with (first | (go_at_call 35; (with_reducible refine (rletter_c c _).mono ?_); rintro e w' ⟨rfl, rfl⟩; rw [Hl.out]) | (go_at_call 36; (with_reducible refine (rword_no _ _ (by rw [HCut.out]; exact Hw.out)).mono ?_); rintro e w' ⟨rfl, hb⟩))
          go_ret2
          exact ⟨by rw [HT.out.1, HT.out.2]; rfl, hb⟩
    · have Hl := Lib.hid (Bool.eq_false_iff.2 hl)
      clear hl
      by_cases hd : isDigit c = true
      · have Hd := Lib.hid hd
        have h39 : ((c.toNat : Int) == 39) = false := by
          rw [beq_eq_false_iff_ne]; intro e
          have := (nat_eq (b := 39)).1 e
          rw [this] at hd; exact absurd hd (by decide)
        clear hd
        by_cases hm : (mean ((c :: t).takeWhile isWordB)).isSome = true
        · have HT : Hid (R1 = 2 ∧ R2 = (E : Int)) := Lib.hid (by
            have := HRt.out
            have hT' := token_cons c t
            rw [if_neg (by rw [Hl.out]; decide), if_pos Hd.out, if_pos hm, Hsp.out] at hT'
            rw [hT'] at this
            exact ⟨this.1, by rw [this.2]; simp; omega⟩)
          have Hm := Lib.hid hm
          clear hm HRt
          go_wp2_with (first | (go_at_call 35; (with_reducible refine (rletter_c c _).mono ?_); rintro e w' ⟨rfl, rfl⟩; rw [Hl.out]) | (go_at_call 25; (with_reducible refine (rdigit_c c _).mono ?_); rintro e w' ⟨rfl, rfl⟩; rw [Hd.out]) | (go_at_call 15; (with_reducible refine (rmean_yes (s.extract k E) _ HLd.out Hcs.out (by rw [HCut.out]; exact Hm.out)).mono ?_); rintro e w' ⟨v, rfl, ⟨n, rfl⟩⟩))
          go_ret2
          exact ⟨by rw [HT.out.1, HT.out.2]; rfl, pw_below_drewN (Below.refl _ _) _⟩
        · have HT : Hid (R1 = 0 ∧ R2 = 0) := Lib.hid (by
            have := HRt.out
            have hT' := token_cons c t
            rw [if_neg (by rw [Hl.out]; decide), if_pos Hd.out, if_neg hm] at hT'
            rw [hT'] at this
            exact ⟨this.1, this.2⟩)
          have Hm := Lib.hid hm
          clear hm HRt
          go_wp2_with (first | (go_at_call 35; (with_reducible refine (rletter_c c _).mono ?_); rintro e w' ⟨rfl, rfl⟩; rw [Hl.out]) | (go_at_call 25; (with_reducible refine (rdigit_c c _).mono ?_); rintro e w' ⟨rfl, rfl⟩; rw [Hd.out]) | (go_at_call 15; (with_reducible refine (rmean_no (s.extract k E) _ HLd.out Hcs.out (by rw [HCut.out]; exact Hm.out)).mono ?_); rintro e w' ⟨rfl, ⟨n, rfl⟩⟩))
          go_ret2
          exact ⟨by rw [HT.out.1, HT.out.2]; rfl, pw_below_drewN (Below.refl _ _) _⟩
      · have Hd := Lib.hid (Bool.eq_false_iff.2 hd)
        clear hd
        by_cases h39 : c = 39
        · have HQ := Lib.hid h39
          have hq : ((c.toNat : Int) == 39) = true := by rw [h39]; rfl
          clear h39
          by_cases h3 : (s.size : Int) < (k : Int) + 3
          · have HT : Hid (R1 = 0 ∧ R2 = 0) := Lib.hid (by
              have := HRt.out
              have hn : ¬ (mean ((c :: t).take 3)).isSome = true := by
                have hlen : (c :: t).length ≤ 2 := by rw [← HD.out, List.length_drop, size_len]; omega
                intro hm
                rw [List.take_of_length_le (by omega), HQ.out] at hm
                match t, hlen with
                | [], _ => exact absurd hm (by decide)
                | [d], _ => revert hm; exact all_bytes (P := fun d => (mean [39, d]).isSome = true → False) (by decide +kernel) d
                | d :: e :: t, h => simp at h
              have hT' := token_cons c t
              rw [if_neg (by rw [Hl.out]; decide), if_neg (by rw [Hd.out]; decide), if_pos HQ.out, if_neg hn] at hT'
              rw [hT'] at this
              exact ⟨this.1, this.2⟩)
            clear HRt
            go_wp2_with (first | (go_at_call 35; (with_reducible refine (rletter_c c _).mono ?_); rintro e w' ⟨rfl, rfl⟩; rw [Hl.out]) | (go_at_call 25; (with_reducible refine (rdigit_c c _).mono ?_); rintro e w' ⟨rfl, rfl⟩; rw [Hd.out]))
            go_ret2
            exact ⟨by rw [HT.out.1, HT.out.2]; rfl, Below.refl _ _⟩
          · have hcut3 : Hid ((s.extract k (k + 3)).data.toList = (c :: t).take 3) := Lib.hid (by rw [cut_from, HD.out]; congr 1; omega)
            have Hcs3 : Hid ((s.extract k (k + 3)).size ≤ 140737488351232) := Lib.hid (by simp; omega)
            by_cases hm : (mean ((c :: t).take 3)).isSome = true
            · have HT : Hid (R1 = 2 ∧ R2 = (k : Int) + 3) := Lib.hid (by
                have := HRt.out
                have hT' := token_cons c t
                rw [if_neg (by rw [Hl.out]; decide), if_neg (by rw [Hd.out]; decide), if_pos HQ.out, if_pos hm] at hT'
                rw [hT'] at this
                exact ⟨this.1, this.2⟩)
              have Hm := Lib.hid hm
              clear hm HRt
              go_wp2_with (first | (go_at_call 35; (with_reducible refine (rletter_c c _).mono ?_); rintro e w' ⟨rfl, rfl⟩; rw [Hl.out]) | (go_at_call 25; (with_reducible refine (rdigit_c c _).mono ?_); rintro e w' ⟨rfl, rfl⟩; rw [Hd.out]) | (go_at_call 15; (with_reducible refine (rmean_yes (s.extract k (k + 3)) _ HLd.out Hcs3.out (by rw [hcut3.out]; exact Hm.out)).mono ?_); rintro e w' ⟨v, rfl, ⟨n, rfl⟩⟩))
              go_ret2
              exact ⟨by rw [HT.out.1, HT.out.2]; rfl, pw_below_drewN (Below.refl _ _) _⟩
            · have HT : Hid (R1 = 0 ∧ R2 = 0) := Lib.hid (by
                have := HRt.out
                have hT' := token_cons c t
                rw [if_neg (by rw [Hl.out]; decide), if_neg (by rw [Hd.out]; decide), if_pos HQ.out, if_neg hm] at hT'
                rw [hT'] at this
                exact ⟨this.1, this.2⟩)
              have Hm := Lib.hid hm
              clear hm HRt
              go_wp2_with (first | (go_at_call 35; (with_reducible refine (rletter_c c _).mono ?_); rintro e w' ⟨rfl, rfl⟩; rw [Hl.out]) | (go_at_call 25; (with_reducible refine (rdigit_c c _).mono ?_); rintro e w' ⟨rfl, rfl⟩; rw [Hd.out]) | (go_at_call 15; (with_reducible refine (rmean_no (s.extract k (k + 3)) _ HLd.out Hcs3.out (by rw [hcut3.out]; exact Hm.out)).mono ?_); rintro e w' ⟨rfl, ⟨n, rfl⟩⟩))
              go_ret2
              exact ⟨by rw [HT.out.1, HT.out.2]; rfl, pw_below_drewN (Below.refl _ _) _⟩
        · have hq : ((c.toNat : Int) == 39) = false := by
            rw [beq_eq_false_iff_ne]; intro e; exact h39 ((nat_eq (b := 39)).1 e)
          have HQ := Lib.hid h39
          clear h39
          have HRs := Lib.hid (show R1 = (if headTwo (c :: t) = true then (3, (k : Int) + 2) else if c ∈ ones then (3, (k : Int) + 1) else ((0 : Int), (0 : Int))).1 ∧ R2 = (if headTwo (c :: t) = true then (3, (k : Int) + 2) else if c ∈ ones then (3, (k : Int) + 1) else ((0 : Int), (0 : Int))).2 by
            have := HRt.out
            have hT' := token_cons c t
            rw [if_neg (by rw [Hl.out]; decide), if_neg (by rw [Hd.out]; decide), if_neg HQ.out] at hT'
            rw [hT'] at this
            rw [this.1, this.2]
            by_cases h1 : headTwo (c :: t) = true
            · rw [if_pos h1, if_pos h1]; exact ⟨rfl, rfl⟩
            · rw [if_neg h1, if_neg h1]
              by_cases h2 : c ∈ ones
              · rw [if_pos h2, if_pos h2]; exact ⟨rfl, rfl⟩
              · rw [if_neg h2, if_neg h2]; exact ⟨rfl, rfl⟩)
          clear HRt Hsp HCut Hcs
          go_wp2_with (first | (go_at_call 35; (with_reducible refine (rletter_c c _).mono ?_); rintro e w' ⟨rfl, rfl⟩; rw [Hl.out]) | (go_at_call 25; (with_reducible refine (rdigit_c c _).mono ?_); rintro e w' ⟨rfl, rfl⟩; rw [Hd.out]))
          clear Hl Hd
          obtain ⟨W, hW⟩ : ∃ W, W = wc.alloc (.cells twoArr 69) := ⟨_, rfl⟩
          have hcell : ∀ j, j < 9 → W.cell? ⟨wc.heap.size, j, none⟩ = some (.string (twoStr j)) := fun j hj => by rw [hW, new_cell, twoArr_at j hj]
          have HBel : Hid (Below wc.heap.size wc W) := Lib.hid (by rw [hW]; exact below_alloc (Below.refl _ _) _)
          change Code.wp _ _ _ _ (wc.alloc (.cells twoArr 69))
          rw [← hW]
          clear hW
          go_loop [79, 10] (fun va vb => ∃ j : Nat, j ≤ 9 ∧ va = .int .i64 j ∧ Hid (∀ i, i < j → ¬ Lib.hasPrefix (c :: t) [(twos.getD i (0, 0)).1, (twos.getD i (0, 0)).2] = true)) (fun va vb => 9 - (intOf va).toNat)
          case atStart => exact ⟨0, by omega, rfl, Lib.hid fun i hi => by omega⟩
          case round =>
            obtain ⟨j, hj, rfl, hh⟩ := hrel
            by_cases hlt : j < 9
            · have hc := hcell j hlt
              clear hcell
              have hts := twoStr_data j hlt
              by_cases he : Lib.hasPrefix (c :: t) [(twos.getD j (0, 0)).1, (twos.getD j (0, 0)).2] = true
              · have HT : Hid (R1 = 3 ∧ R2 = (k : Int) + 2) := Lib.hid (by
                  have := HRs.out
                  rw [if_pos (headTwo_yes hlt he)] at this
                  exact this)
                have Hp := Lib.hid (show Lib.hasPrefix (s.data.toList.drop k) (twoStr j).data.toList = true by rw [hts.1, HD.out]; exact he)
                have Hz := Lib.hid hts.2
                clear he hh hts HRs
                go_wp2_with (go_at_call 26; (with_reducible refine (st_yes s k (twoStr j) _ hs (Nat.le_of_lt hk) Hz.out Hp.out).mono ?_); rintro e w' ⟨rfl, rfl⟩)
                go_ret2
                exact ⟨by rw [HT.out.1, HT.out.2]; rfl, HBel.out⟩
              · have HN := Lib.hid (show ∀ i, i < j + 1 → ¬ Lib.hasPrefix (c :: t) [(twos.getD i (0, 0)).1, (twos.getD i (0, 0)).2] = true from fun i hi => by
                  by_cases e : i = j
                  · rw [e]; exact he
                  · exact hh.out i (by omega))
                have Hp := Lib.hid (show ¬ Lib.hasPrefix (s.data.toList.drop k) (twoStr j).data.toList = true by rw [hts.1, HD.out]; exact he)
                have Hz := Lib.hid hts.2
                clear he hh hts HRs
                go_wp2_with (go_at_call 26; (with_reducible refine (st_no s k (twoStr j) _ hs (Nat.le_of_lt hk) Hz.out Hp.out).mono ?_); rintro e w' ⟨rfl, rfl⟩)
                go_round
                case rel => exact ⟨j + 1, by omega, by go_num, HN⟩
                case measure => simp [intOf]; omega
            · obtain rfl : j = 9 := by omega
              have HT := Lib.hid (show R1 = (if c ∈ ones then (3, (k : Int) + 1) else ((0 : Int), (0 : Int))).1 ∧ R2 = (if c ∈ ones then (3, (k : Int) + 1) else ((0 : Int), (0 : Int))).2 by
                have := HRs.out
                rw [if_neg (by rw [headTwo_no hh.out]; decide)] at this
                exact this)
              clear hh hcell HRs HD
              go_wp2
              obtain ⟨O, hO⟩ : ∃ O : ByteArray, O = ⟨#[43, 45, 42, 47, 37, 38, 124, 94, 126, 33, 60, 62, 61, 40, 41, 123, 125, 91, 93, 59, 44, 46]⟩ := ⟨_, rfl⟩
              rw [← hO]
              have hsz : O.size = 22 := by rw [hO]; rfl
              have HOi : Hid (∀ i, i < 22 → ∀ h : i < O.size, (((O[i]'h).toNat : Nat) : Int) = ((ones.getD i 0).toNat : Int)) := Lib.hid (by
                subst hO
                have H : ∀ i : Fin 22, ((((⟨#[43, 45, 42, 47, 37, 38, 124, 94, 126, 33, 60, 62, 61, 40, 41, 123, 125, 91, 93, 59, 44, 46]⟩ : ByteArray)[i.val]'i.isLt).toNat : Nat) : Int) = ((ones.getD i.val 0).toNat : Int) := by decide +kernel
                exact fun i hi h => H ⟨i, hi⟩)
              clear hO
              go_loopw [12] (fun va wr => ∃ j : Nat, j ≤ 22 ∧ va = .int .i64 j ∧ Below wc.heap.size wc wr ∧ Hid (∀ i, i < j → ones.getD i 0 ≠ c)) (fun va _ => 22 - (intOf va).toNat)
              case atStart => exact ⟨0, by omega, rfl, HBel.out, Lib.hid fun i hi => by omega⟩
              case round =>
                obtain ⟨j, hj, rfl, hbel, hh⟩ := hrel
                have HBel := Lib.hid hbel
                clear hbel
                by_cases hlt : j < 22
                · have hjO : j < O.size := by omega
                  have ho := HOi.out j hlt
                  by_cases he : ones.getD j 0 = c
                  · have HT2 : Hid (R1 = 3 ∧ R2 = (k : Int) + 1) := Lib.hid (by
                      have := HT.out
                      rw [if_pos (by rw [← he, List.getD_eq_getElem?_getD, List.getElem?_eq_getElem (show j < ones.length from hlt)]; exact List.getElem_mem _)] at this
                      exact this)
                    rw [he] at ho
                    clear he hh HT
                    go_wp2
                    go_quiet (fail)
                    all_goals go_wp2
                    all_goals go_ret2
                    all_goals exact ⟨by rw [HT2.out.1, HT2.out.2]; rfl, by repeat (first | exact HBel.out | apply below_alloc | apply pw_below_drewN | apply below_drew)⟩
                  · have hne : (((ones.getD j 0).toNat : Int) == (c.toNat : Int)) = false := by
                      rw [beq_eq_false_iff_ne]; intro e; exact he (UInt8.toNat.inj (by omega))
                    have HN := Lib.hid (show ∀ i, i < j + 1 → ones.getD i 0 ≠ c from fun i hi => by
                      by_cases e : i = j
                      · rw [e]; exact he
                      · exact hh.out i (by omega))
                    obtain ⟨d, hd⟩ : ∃ d, d = ones.getD j 0 := ⟨_, rfl⟩
                    rw [← hd] at ho hne
                    clear he hh HT hd
                    go_wp2
                    go_quiet (fail)
                    all_goals go_wp2
                    all_goals go_roundw
                    case rel => exact ⟨j + 1, by omega, by go_num, by repeat (first | exact HBel.out | apply below_alloc | apply pw_below_drewN | apply below_drew), HN⟩
                    case measure => simp [intOf]; omega
                · obtain rfl : j = 22 := by omega
                  have HT2 : Hid (R1 = 0 ∧ R2 = 0) := Lib.hid (by
                    have := HT.out
                    rw [if_neg (by
                      intro hm
                      obtain ⟨i, hi, e⟩ := List.getElem_of_mem hm
                      exact hh.out i hi (by rw [List.getD_eq_getElem?_getD, List.getElem?_eq_getElem hi, e]; rfl))] at this
                    exact this)
                  clear hh HT
                  go_wp2
                  go_ret2
                  exact ⟨by rw [HT2.out.1, HT2.out.2]; rfl, HBel.out⟩
end Go.Proofs.YtjegaejdphmdgaaDoor.Print
