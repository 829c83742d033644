/-
  hauberkref05.Word, hauberkref05.token: the token that stands at a place, as 'LexP.token' has it.
-/
import Derived.Test.YtjegaejdphmdgaaDoorPl
import Derived.Test.YtjegaejdphmdgaaDoorRap
import Derived.Test.YtjegaejdphmdgaaDoorPm
import Derived.Deep.QuietTactic
import Derived.BigQuiet
import Derived.Laws.Rows
namespace Go.Proofs.YtjegaejdphmdgaaDoor.Print
open Go.RowKit Go.Lib Go.Proofs.YtjegaejdphmdgaaDoorW.PrintWords Go.Proofs.YtjegaejdphmdgaaDoor.LexP
set_option linter.unusedVariables false

def rtok (s : ByteArray) (k : Nat) : Int × Int := if (token (s.data.toList.drop k)).1 = 0 then (0, 0) else (((token (s.data.toList.drop k)).1 : Int), (k : Int) + ((token (s.data.toList.drop k)).2 : Int))
def wordStr (j : Nat) : ByteArray := (words.map fun l => (⟨l.toArray⟩ : ByteArray)).getD j ByteArray.empty
def wordArr : Array Value := (words.map fun l => Value.string ⟨l.toArray⟩).toArray
theorem wordArr_at (j : Nat) (hj : j < 13) : wordArr[j]? = some (.string (wordStr j)) := by
  have H : ∀ j : Fin 13, wordArr[j.val]? = some (.string (wordStr j.val)) := by
    intro j
    match j with
    | 0 => rfl | 1 => rfl | 2 => rfl | 3 => rfl | 4 => rfl | 5 => rfl | 6 => rfl | 7 => rfl | 8 => rfl | 9 => rfl | 10 => rfl | 11 => rfl | 12 => rfl
  exact H ⟨j, hj⟩
theorem new_cell (w : World) (cs : Array Value) (ty : TypeId) (j : Nat) : (w.alloc (.cells cs ty)).cell? ⟨w.heap.size, j, none⟩ = cs[j]? := by
  have := (MapKept.heap_alloc w (.cells cs ty)).1
  simp only [World.cell?, this]
  rfl
theorem wordStr_data (j : Nat) (hj : j < 13) : (wordStr j).data.toList = words.getD j [] := by
  have H : ∀ j : Fin 13, (wordStr j.val).data.toList = words.getD j.val [] := by decide +kernel
  exact H ⟨j, hj⟩
theorem mem_words {l : List UInt8} : l ∈ words ↔ ∃ j, j < 13 ∧ words.getD j [] = l := by
  constructor
  · intro h
    obtain ⟨j, hj, he⟩ := List.getElem_of_mem h
    exact ⟨j, hj, by rw [List.getD_eq_getElem?_getD, List.getElem?_eq_getElem hj, he]; rfl⟩
  · rintro ⟨j, hj, rfl⟩
    rw [List.getD_eq_getElem?_getD, List.getElem?_eq_getElem (show j < words.length from hj)]
    exact List.getElem_mem _
set_option maxHeartbeats 4000000 in
set_option maxRecDepth 100000 in
theorem word_any (s : ByteArray) (w : World) : Calls Tryd.prog 36 #[.string s] w fun e w' => e = .returned (.bool (decide (s.data.toList ∈ words))) ∧ Below w.heap.size w w' := by
  obtain ⟨B, hB⟩ : ∃ B : Bool, B = decide (s.data.toList ∈ words) := ⟨_, rfl⟩
  rw [← hB]
  have HB := Lib.hid hB; clear hB
  go_enter Tryd.func36, Tryd.ntmps36
  go_wp2
  obtain ⟨W, hW⟩ : ∃ W, W = w.alloc (.cells wordArr 83) := ⟨_, rfl⟩
  have hcell : ∀ j, j < 13 → W.cell? ⟨w.heap.size, j, none⟩ = some (.string (wordStr j)) := fun j hj => by rw [hW, new_cell, wordArr_at j hj]
  have HBel : Hid (Below w.heap.size w W) := Lib.hid (by rw [hW]; exact below_alloc (Below.refl _ _) _)
  change Code.wp _ _ _ _ (w.alloc (.cells wordArr 83))
  rw [← hW]
  clear hW
  go_loop [6] (fun va => ∃ j : Nat, j ≤ 13 ∧ va = .int .i64 j ∧ Hid (∀ i, i < j → words.getD i [] ≠ s.data.toList)) (fun va => 13 - (intOf va).toNat)
  case atStart => exact ⟨0, by omega, rfl, Lib.hid fun i hi => by omega⟩
  case round =>
    obtain ⟨j, hj, rfl, hh⟩ := hrel
    by_cases hlt : j < 13
    · have hc := hcell j hlt
      clear hcell
      by_cases he : words.getD j [] = s.data.toList
      · have hq : ((wordStr j).toList == s.toList) = true := by rw [Lib.toList_data, Lib.toList_data, wordStr_data j hlt, he]; simp
        have HT : Hid (B = true) := Lib.hid (by rw [HB.out]; exact decide_eq_true (mem_words.2 ⟨j, hlt, he⟩))
        clear he hh
        go_wp2
        go_ret
        exact ⟨by rw [HT.out]; rfl, HBel.out⟩
      · have hq : ((wordStr j).toList == s.toList) = false := by rw [Lib.toList_data, Lib.toList_data, wordStr_data j hlt]; simpa using he
        have HN := Lib.hid (show ∀ i, i < j + 1 → words.getD i [] ≠ s.data.toList from fun i hi => by
          by_cases e : i = j
          · rw [e]; exact he
          · exact hh.out i (by omega))
        clear he hh
        go_wp2
        go_round
        case rel => exact ⟨j + 1, by omega, by go_num, HN⟩
        case measure => simp [intOf]; omega
    · obtain rfl : j = 13 := by omega
      have HT : Hid (B = false) := Lib.hid (by
        rw [HB.out]; exact decide_eq_false (fun h => by obtain ⟨i, hi, e⟩ := mem_words.1 h; exact hh.out i hi e))
      clear hh hcell
      go_wp2
      go_ret
      exact ⟨by rw [HT.out]; rfl, HBel.out⟩
set_option maxHeartbeats 1000000 in
theorem rdigit_c (c : UInt8) (w : World) : Calls Tryd.prog 25 #[.int .u8 (c.toNat : Int)] w fun e w' => e = .returned (.bool (isDigit c)) ∧ w = w' := by
  have key : ∀ b : Bool, isDigit c = b → Calls Tryd.prog 25 #[.int .u8 (c.toNat : Int)] w fun e w' => e = .returned (.bool (isDigit c)) ∧ w = w' := by
    intro b hb
    have HT := Lib.hid hb
    by_cases h1 : (48 : Int) ≤ (c.toNat : Int)
    · by_cases h2 : (c.toNat : Int) ≤ 57
      · have HT : Hid (isDigit c = true) := Lib.hid (by unfold isDigit; rw [decide_eq_true ((nat_le (a := 48)).1 h1), decide_eq_true ((nat_le (b := 57)).1 h2)]; rfl)
        clear hb
        go_enter Tryd.func25, Tryd.ntmps25
        go_wp2
        go_ret
        exact ⟨by rw [HT.out]; rfl, rfl⟩
      · have HT : Hid (isDigit c = false) := Lib.hid (by unfold isDigit; rw [decide_eq_false (fun h => h2 ((nat_le (b := 57)).2 h))]; simp)
        clear hb
        go_enter Tryd.func25, Tryd.ntmps25
        go_wp2
        go_ret
        exact ⟨by rw [HT.out]; rfl, rfl⟩
    · have HT : Hid (isDigit c = false) := Lib.hid (by unfold isDigit; rw [decide_eq_false (fun h => h1 ((nat_le (a := 48)).2 h))]; rfl)
      clear hb
      go_enter Tryd.func25, Tryd.ntmps25
      go_wp2
      go_ret
      exact ⟨by rw [HT.out]; rfl, rfl⟩
  exact key _ rfl
theorem letter_ranges (c : UInt8) : ((c.toNat : Int) < 65 ∧ isLetter c = false) ∨ (65 ≤ (c.toNat : Int) ∧ (c.toNat : Int) ≤ 90 ∧ isLetter c = true) ∨ (90 < (c.toNat : Int) ∧ (c.toNat : Int) < 97 ∧ ((c.toNat : Int) == 95) = isLetter c) ∨ (97 ≤ (c.toNat : Int) ∧ (c.toNat : Int) ≤ 122 ∧ isLetter c = true) ∨ (122 < (c.toNat : Int) ∧ isLetter c = false) :=
  all_bytes (P := fun c => ((c.toNat : Int) < 65 ∧ isLetter c = false) ∨ (65 ≤ (c.toNat : Int) ∧ (c.toNat : Int) ≤ 90 ∧ isLetter c = true) ∨ (90 < (c.toNat : Int) ∧ (c.toNat : Int) < 97 ∧ ((c.toNat : Int) == 95) = isLetter c) ∨ (97 ≤ (c.toNat : Int) ∧ (c.toNat : Int) ≤ 122 ∧ isLetter c = true) ∨ (122 < (c.toNat : Int) ∧ isLetter c = false)) (by decide +kernel) c
set_option maxHeartbeats 1000000 in
theorem rletter_c (c : UInt8) (w : World) : Calls Tryd.prog 35 #[.int .u8 (c.toNat : Int)] w fun e w' => e = .returned (.bool (isLetter c)) ∧ w = w' := by
  rcases letter_ranges c with ⟨h1, h⟩ | ⟨h1, h2, h⟩ | ⟨h1, h2, h⟩ | ⟨h1, h2, h⟩ | ⟨h1, h⟩
  · have HT := Lib.hid h
    have n95 : ((c.toNat : Int) == 95) = false := by rw [beq_eq_false_iff_ne]; omega
    clear h
    go_enter Tryd.func35, Tryd.ntmps35
    go_wp2
    go_ret
    exact ⟨by rw [HT.out]; rfl, rfl⟩
  · have HT := Lib.hid h
    have h97 : ¬ (97 : Int) ≤ (c.toNat : Int) := by omega
    clear h
    go_enter Tryd.func35, Tryd.ntmps35
    go_wp2
    go_ret
    exact ⟨by rw [HT.out]; rfl, rfl⟩
  · have h65 : (65 : Int) ≤ (c.toNat : Int) := by omega
    have h90 : ¬ (c.toNat : Int) ≤ 90 := by omega
    have h97 : ¬ (97 : Int) ≤ (c.toNat : Int) := by omega
    obtain ⟨b, hb⟩ : ∃ b, b = isLetter c := ⟨_, rfl⟩
    rw [← hb] at h ⊢
    clear hb
    cases b
    all_goals
      go_enter Tryd.func35, Tryd.ntmps35
      go_wp2
      go_ret
      exact ⟨rfl, rfl⟩
  · have HT := Lib.hid h
    clear h
    go_enter Tryd.func35, Tryd.ntmps35
    go_wp2
    go_ret
    exact ⟨by rw [HT.out]; rfl, rfl⟩
  · have HT := Lib.hid h
    have h97 : (97 : Int) ≤ (c.toNat : Int) := by omega
    have h122 : ¬ (c.toNat : Int) ≤ 122 := by omega
    have h65 : (65 : Int) ≤ (c.toNat : Int) := by omega
    have h90 : ¬ (c.toNat : Int) ≤ 90 := by omega
    have n95 : ((c.toNat : Int) == 95) = false := by rw [beq_eq_false_iff_ne]; omega
    clear h h1
    go_enter Tryd.func35, Tryd.ntmps35
    go_wp2
    go_ret
    exact ⟨by rw [HT.out]; rfl, rfl⟩
theorem rmean_yes (s : ByteArray) (w : World) (hL : Laid w) (hs : s.size ≤ 140737488351232) (h : (mean s.data.toList).isSome = true) : Calls Tryd.prog 15 #[.string s] w fun e w' => ∃ v, e = .returned (.tuple #[.int .u64 v, .bool true]) ∧ Drawn0 w w' := by
  cases hm : mean s.data.toList with
  | none => rw [hm] at h; cases h
  | some n => exact (hauberkref05_Mean.calls (2 * s.size + 4) s (n : Int) true w hL (by rw [ref_Mean_plain s _ hs (Nat.le_refl _), hm]; rfl)).mono fun e w' ⟨he, hb⟩ => ⟨_, he, hb⟩
theorem rmean_no (s : ByteArray) (w : World) (hL : Laid w) (hs : s.size ≤ 140737488351232) (h : ¬ (mean s.data.toList).isSome = true) : Calls Tryd.prog 15 #[.string s] w fun e w' => e = .returned (.tuple #[.int .u64 0, .bool false]) ∧ Drawn0 w w' := by
  cases hm : mean s.data.toList with
  | some n => rw [hm] at h; exact absurd rfl h
  | none => exact hauberkref05_Mean.calls (2 * s.size + 4) s 0 false w hL (by rw [ref_Mean_plain s _ hs (Nat.le_refl _), hm]; rfl)
theorem rword_yes (s : ByteArray) (w : World) (h : s.data.toList ∈ words) : Calls Tryd.prog 36 #[.string s] w fun e w' => e = .returned (.bool true) ∧ Below w.heap.size w w' :=
  (word_any s w).mono fun e w' ⟨he, hb⟩ => ⟨by rw [he, decide_eq_true h], hb⟩
theorem rword_no (s : ByteArray) (w : World) (h : ¬ s.data.toList ∈ words) : Calls Tryd.prog 36 #[.string s] w fun e w' => e = .returned (.bool false) ∧ Below w.heap.size w w' :=
  (word_any s w).mono fun e w' ⟨he, hb⟩ => ⟨by rw [he, decide_eq_false h], hb⟩
end Go.Proofs.YtjegaejdphmdgaaDoor.Print
