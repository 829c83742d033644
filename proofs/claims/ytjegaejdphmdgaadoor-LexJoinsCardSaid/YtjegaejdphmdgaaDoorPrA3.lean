-- printed by myprint.py, a session's own driver around the kit's printing program
import Derived.Test.YtjegaejdphmdgaaDoorPrA0
import Derived.Test.YtjegaejdphmdgaaDoorPrA2
namespace Go.Proofs.YtjegaejdphmdgaaDoor.Print
open Go.RowKit Go.Proofs.YtjegaejdphmdgaaDoorW.PrintWords Go.Proofs.YtjegaejdphmdgaaDoorW.PrintLast Go.Proofs.YtjegaejdphmdgaaDoorW.PrintMore
attribute [local go_sem] max2_int min2_int max_two min_two max_three min_three max_four min_four   -- for this text's walks alone
set_option linter.unusedVariables false
set_option linter.unusedSimpArgs false

/-! ### hauberkref05_Mean: function 15 -/
mutual
def hauberkref05_Mean.j0 : Nat → ByteArray → Bool → Option (Int × Bool)
  | 0, _, _ => none
  | k + 1, x0, x15 => if x15 = true then (if 2 < (x0.size : Int) then (if (bt x0 2) = 39 then (if 1 < (x0.size : Int) then (if (bt x0 1) ≥ 32 then (if (bt x0 1) ≤ 126 then (if (bt x0 1) = 39 then (some (0, false)) else (if (bt x0 1) = 92 then (some (0, false)) else (some (IntKind.u64.wrap (bt x0 1), true)))) else (some (0, false))) else (some (0, false))) else (none)) else (some (0, false))) else (none)) else (if x0.toList = ([] : List UInt8) then (hauberkref05_Mean.j1 k x0 true) else (if (x0.size : Int) > 20 then (hauberkref05_Mean.j1 k x0 true) else (if 0 < (x0.size : Int) then ((hauberkref05_digit.f (bt x0 0)).bind fun t117 => (hauberkref05_Mean.j1 k x0 (!t117))) else (none))))
def hauberkref05_Mean.j1 : Nat → ByteArray → Bool → Option (Int × Bool)
  | 0, _, _ => none
  | k + 1, x0, x54 => if x54 = true then (some (0, false)) else ((hauberkref05_starts.f x0 0 (⟨#[48, 120]⟩ : ByteArray)).bind fun t118 => (if t118 = true then (hauberkref05_Mean.j2 k x0 2 16) else (hauberkref05_Mean.j2 k x0 0 10)))
def hauberkref05_Mean.j2 : Nat → ByteArray → Int → Int → Option (Int × Bool)
  | 0, _, _, _ => none
  | k + 1, x0, x4, x5 => if x4 = (x0.size : Int) then (some (0, false)) else (hauberkref05_Mean.l0 k x0 x4 x5 0)
def hauberkref05_Mean.l0 : Nat → ByteArray → Int → Int → Int → Option (Int × Bool)
  | 0, _, _, _, _ => none
  | k + 1, x0, x4, x5, x6 => if x4 < (x0.size : Int) then (if 0 ≤ x4 then ((hauberkref05_digit.f (bt x0 x4)).bind fun t119 => (if t119 = true then (if (((bt x0 x4) - 48) % 256) ≥ x5 then (some (0, false)) else (if x5 = 0 then (none) else (if x6 > (IntKind.u64.wrap (Int.tdiv (9223372036854775807 - (((bt x0 x4) - 48) % 256)) x5)) then (some (0, false)) else (hauberkref05_Mean.l0 k x0 (wrap64 (x4 + 1)) x5 (IntKind.u64.wrap ((IntKind.u64.wrap (x6 * x5)) + (((bt x0 x4) - 48) % 256))))))) else (if (bt x0 x4) ≥ 97 then (hauberkref05_Mean.j4 k x0 x4 x5 x6 99 (decide ((bt x0 x4) ≤ 102))) else (hauberkref05_Mean.j4 k x0 x4 x5 x6 99 false)))) else (none)) else (some (x6, true))
def hauberkref05_Mean.j4 : Nat → ByteArray → Int → Int → Int → Int → Bool → Option (Int × Bool)
  | 0, _, _, _, _, _, _ => none
  | k + 1, x0, x4, x5, x6, x7, x85 => if x85 = true then (if 0 ≤ x4 then (if x4 < (x0.size : Int) then (if ((((bt x0 x4) - 97) % 256) + 10) ≥ x5 then (some (0, false)) else (if x5 = 0 then (none) else (if x6 > (IntKind.u64.wrap (Int.tdiv (9223372036854775807 - ((((bt x0 x4) - 97) % 256) + 10)) x5)) then (some (0, false)) else (hauberkref05_Mean.l0 k x0 (wrap64 (x4 + 1)) x5 (IntKind.u64.wrap ((IntKind.u64.wrap (x6 * x5)) + ((((bt x0 x4) - 97) % 256) + 10))))))) else (none)) else (none)) else (if x7 ≥ x5 then (some (0, false)) else (if x5 = 0 then (none) else (if x6 > (IntKind.u64.wrap (Int.tdiv (IntKind.u64.wrap (9223372036854775807 - x7)) x5)) then (some (0, false)) else (hauberkref05_Mean.l0 k x0 (wrap64 (x4 + 1)) x5 (IntKind.u64.wrap ((IntKind.u64.wrap (x6 * x5)) + x7))))))
end
def hauberkref05_Mean.f (k : Nat) (a0 : ByteArray) : Option (Int × Bool) := if (a0.size : Int) = 3 then (if 0 < (a0.size : Int) then (hauberkref05_Mean.j0 k a0 ((bt a0 0) == 39)) else (none)) else (hauberkref05_Mean.j0 k a0 false)
theorem hauberkref05_Mean.mono_l : ∀ k, (∀ y0 y1, LeO (hauberkref05_Mean.j0 k y0 y1) (hauberkref05_Mean.j0 (k + 1) y0 y1)) ∧ (∀ y0 y1, LeO (hauberkref05_Mean.j1 k y0 y1) (hauberkref05_Mean.j1 (k + 1) y0 y1)) ∧ (∀ y0 y1 y2, LeO (hauberkref05_Mean.j2 k y0 y1 y2) (hauberkref05_Mean.j2 (k + 1) y0 y1 y2)) ∧ (∀ y0 y1 y2 y3, LeO (hauberkref05_Mean.l0 k y0 y1 y2 y3) (hauberkref05_Mean.l0 (k + 1) y0 y1 y2 y3)) ∧ (∀ y0 y1 y2 y3 y4 y5, LeO (hauberkref05_Mean.j4 k y0 y1 y2 y3 y4 y5) (hauberkref05_Mean.j4 (k + 1) y0 y1 y2 y3 y4 y5))
  | 0 => ⟨fun _ _ r h => by simp [hauberkref05_Mean.j0] at h, fun _ _ r h => by simp [hauberkref05_Mean.j1] at h, fun _ _ _ r h => by simp [hauberkref05_Mean.j2] at h, fun _ _ _ _ r h => by simp [hauberkref05_Mean.l0] at h, fun _ _ _ _ _ _ r h => by simp [hauberkref05_Mean.j4] at h⟩
  | k + 1 => by
    obtain ⟨ih0, ih1, ih2, ih3, ih4⟩ := hauberkref05_Mean.mono_l k
    refine ⟨?_, ?_, ?_, ?_, ?_⟩
    · intro y0 y1
      unfold hauberkref05_Mean.j0
      repeat' first
      | (with_reducible exact ih0 _ _)
      | (with_reducible exact ih1 _ _)
      | (with_reducible exact ih2 _ _ _)
      | (with_reducible exact ih3 _ _ _ _)
      | (with_reducible exact ih4 _ _ _ _ _ _)
      | (with_reducible exact LeO.refl _)
      | (with_reducible exact LeO.none _)
      | (with_reducible refine LeO.ite ?_ ?_)
      | (with_reducible refine LeO.bind ?_ (fun _ => ?_))
      | exact ih0 _ _
      | exact ih1 _ _
      | exact ih2 _ _ _
      | exact ih3 _ _ _ _
      | exact ih4 _ _ _ _ _ _
      | exact LeO.none _
      | refine LeO.ite ?_ ?_
      | refine LeO.bind ?_ (fun _ => ?_)
    · intro y0 y1
      unfold hauberkref05_Mean.j1
      repeat' first
      | (with_reducible exact ih0 _ _)
      | (with_reducible exact ih1 _ _)
      | (with_reducible exact ih2 _ _ _)
      | (with_reducible exact ih3 _ _ _ _)
      | (with_reducible exact ih4 _ _ _ _ _ _)
      | (with_reducible exact LeO.refl _)
      | (with_reducible exact LeO.none _)
      | (with_reducible refine LeO.ite ?_ ?_)
      | (with_reducible refine LeO.bind ?_ (fun _ => ?_))
      | exact ih0 _ _
      | exact ih1 _ _
      | exact ih2 _ _ _
      | exact ih3 _ _ _ _
      | exact ih4 _ _ _ _ _ _
      | exact LeO.none _
      | refine LeO.ite ?_ ?_
      | refine LeO.bind ?_ (fun _ => ?_)
    · intro y0 y1 y2
      unfold hauberkref05_Mean.j2
      repeat' first
      | (with_reducible exact ih0 _ _)
      | (with_reducible exact ih1 _ _)
      | (with_reducible exact ih2 _ _ _)
      | (with_reducible exact ih3 _ _ _ _)
      | (with_reducible exact ih4 _ _ _ _ _ _)
      | (with_reducible exact LeO.refl _)
      | (with_reducible exact LeO.none _)
      | (with_reducible refine LeO.ite ?_ ?_)
      | (with_reducible refine LeO.bind ?_ (fun _ => ?_))
      | exact ih0 _ _
      | exact ih1 _ _
      | exact ih2 _ _ _
      | exact ih3 _ _ _ _
      | exact ih4 _ _ _ _ _ _
      | exact LeO.none _
      | refine LeO.ite ?_ ?_
      | refine LeO.bind ?_ (fun _ => ?_)
    · intro y0 y1 y2 y3
      unfold hauberkref05_Mean.l0
      repeat' first
      | (with_reducible exact ih0 _ _)
      | (with_reducible exact ih1 _ _)
      | (with_reducible exact ih2 _ _ _)
      | (with_reducible exact ih3 _ _ _ _)
      | (with_reducible exact ih4 _ _ _ _ _ _)
      | (with_reducible exact LeO.refl _)
      | (with_reducible exact LeO.none _)
      | (with_reducible refine LeO.ite ?_ ?_)
      | (with_reducible refine LeO.bind ?_ (fun _ => ?_))
      | exact ih0 _ _
      | exact ih1 _ _
      | exact ih2 _ _ _
      | exact ih3 _ _ _ _
      | exact ih4 _ _ _ _ _ _
      | exact LeO.none _
      | refine LeO.ite ?_ ?_
      | refine LeO.bind ?_ (fun _ => ?_)
    · intro y0 y1 y2 y3 y4 y5
      unfold hauberkref05_Mean.j4
      repeat' first
      | (with_reducible exact ih0 _ _)
      | (with_reducible exact ih1 _ _)
      | (with_reducible exact ih2 _ _ _)
      | (with_reducible exact ih3 _ _ _ _)
      | (with_reducible exact ih4 _ _ _ _ _ _)
      | (with_reducible exact LeO.refl _)
      | (with_reducible exact LeO.none _)
      | (with_reducible refine LeO.ite ?_ ?_)
      | (with_reducible refine LeO.bind ?_ (fun _ => ?_))
      | exact ih0 _ _
      | exact ih1 _ _
      | exact ih2 _ _ _
      | exact ih3 _ _ _ _
      | exact ih4 _ _ _ _ _ _
      | exact LeO.none _
      | refine LeO.ite ?_ ?_
      | refine LeO.bind ?_ (fun _ => ?_)
theorem hauberkref05_Mean.mono : ∀ a0 k, LeO (hauberkref05_Mean.f k a0) (hauberkref05_Mean.f (k + 1) a0) := by
  intro a0 k
  obtain ⟨ih0, ih1, ih2, ih3, ih4⟩ := hauberkref05_Mean.mono_l k
  unfold hauberkref05_Mean.f
  repeat' first
      | (with_reducible exact ih0 _ _)
      | (with_reducible exact ih1 _ _)
      | (with_reducible exact ih2 _ _ _)
      | (with_reducible exact ih3 _ _ _ _)
      | (with_reducible exact ih4 _ _ _ _ _ _)
      | (with_reducible exact LeO.refl _)
      | (with_reducible exact LeO.none _)
      | (with_reducible refine LeO.ite ?_ ?_)
      | (with_reducible refine LeO.bind ?_ (fun _ => ?_))
      | exact ih0 _ _
      | exact ih1 _ _
      | exact ih2 _ _ _
      | exact ih3 _ _ _ _
      | exact ih4 _ _ _ _ _ _
      | exact LeO.none _
      | refine LeO.ite ?_ ?_
      | refine LeO.bind ?_ (fun _ => ?_)
set_option maxHeartbeats 8000000 in
set_option maxRecDepth 100000 in
theorem hauberkref05_Mean.calls (k : Nat) (a0 : ByteArray) (r1 : Int) (r2 : Bool) (w : World) (hL : Laid w) (h : hauberkref05_Mean.f k a0 = some (r1, r2)) :
    Calls Tryd.prog 15 #[.string a0] w fun e w' => e = .returned (.tuple #[.int .u64 r1, .bool r2]) ∧ Drawn0 w w' := by
  have H : (if (a0.size : Int) = 3 then (if 0 < (a0.size : Int) then (hauberkref05_Mean.j0 k a0 ((bt a0 0) == 39)) else (none)) else (hauberkref05_Mean.j0 k a0 false)) = some (r1, r2) := h
  clear h
  have HC2 := Aside0.mk H
  clear H
  go_enter Tryd.func15, Tryd.ntmps15
  go_upto_region 1 with (fail)
  go_cut [15] (fun v15 wc => ∃ (kq : Nat) (x15_1 : Bool), v15 = .bool x15_1 ∧ Aside0 (hauberkref05_Mean.j0 kq a0 x15_1 = some (r1, r2)) ∧ Aside0 (kq ≤ k) ∧ Drawn0 w wc)
  case first =>
    have H := HC2.out
    clear HC2
    by_cases c3 : (a0.size : Int) = 3
    · rw [if_pos c3] at H
      have c3b0 : ((a0.size : Int) == 3) = true := beq_iff_eq.mpr c3
      have c3b1 : ((a0.size : Int) != 3) = false := bne_eq_false_iff_eq.mpr c3
      clear c3
      (first | rw [c3b0] | (simp only [i64_w, i32_w]; rw [c3b0]) | skip)
      by_cases c4 : 0 < (a0.size : Int)
      · rw [if_pos c4] at H
        have c4b0 : decide (0 < (a0.size : Int)) = true := decide_eq_true c4
        have c4b1 : decide (0 < a0.size) = true := decide_eq_true (by omega)
        clear c4
        have H' := Aside0.mk H
        clear H
        have p5 : 0 ≤ (0 : Int) := (by omega)
        have q5 : 0 < a0.size := (by have : (0 : Int) < (a0.size : Int) := of_decide_eq_true (by first | (with_reducible assumption) | assumption); omega)
        have hx5 : ∀ h : 0 < a0.size, ((a0[0]'h).toNat : Int) = bt a0 0 := bt_at a0 0
        clear p5
        have qi5 : (0 < (a0.size : Int)) = True := eq_true (of_decide_eq_true (by first | (with_reducible assumption) | assumption))
        replace q5 := eq_true q5
        go_wp2
        go_meet
        case rel => exact ⟨_, (((bt a0 0) == 39)), (by first | rfl | (simp; done) | (simp [*]; done)), H', ⟨by first | omega | exact Nat.le_refl _⟩, by repeat (first | exact Drawn0.refl _ | apply Drawn0.step)⟩
      · rw [if_neg c4] at H
        exact absurd H (by simp)
    · rw [if_neg c3] at H
      have c3b0 : ((a0.size : Int) == 3) = false := beq_eq_false_iff_ne.mpr c3
      have c3b1 : ((a0.size : Int) != 3) = true := bne_iff_ne.mpr c3
      (first | rw [c3b0] | (simp only [i64_w, i32_w]; rw [c3b0]) | skip)
      have H' := Aside0.mk H
      clear H
      go_wp2
      go_meet
      case rel => exact ⟨_, (false), (by first | rfl | (simp; done) | (simp [*]; done)), H', ⟨by first | omega | exact Nat.le_refl _⟩, by repeat (first | exact Drawn0.refl _ | apply Drawn0.step)⟩
  case rest =>
    clear HC2
    try clear c1
    try clear p2
    try clear c3
    try clear c3b0
    try clear c3b1
    try clear c4
    try clear c4b0
    try clear c4b1
    try clear p5
    try clear q5
    try clear hx5
    try clear qi5
    try clear p5
    try clear q5
    obtain ⟨kq, x15_1, rfl, HA, HJ1, ⟨mc1, rfl⟩⟩ := hcut
    cases kq with
    | zero => exact absurd HA.out (by simp [hauberkref05_Mean.j0])
    | succ kj1 =>
      have H := HA.out
      clear HA
      simp only [hauberkref05_Mean.j0] at H
      by_cases c6 : x15_1 = true
      · subst c6
        have H1 : (if 2 < (a0.size : Int) then (if (bt a0 2) = 39 then (if 1 < (a0.size : Int) then (if (bt a0 1) ≥ 32 then (if (bt a0 1) ≤ 126 then (if (bt a0 1) = 39 then (some (0, false)) else (if (bt a0 1) = 92 then (some (0, false)) else (some (IntKind.u64.wrap (bt a0 1), true)))) else (some (0, false))) else (some (0, false))) else (none)) else (some (0, false))) else (none)) = some (r1, r2) := by rw [if_pos rfl] at H; exact H
        clear H
        have H := H1
        clear H1
        by_cases c7 : 2 < (a0.size : Int)
        · rw [if_pos c7] at H
          have c7b0 : decide (2 < (a0.size : Int)) = true := decide_eq_true c7
          have c7b1 : decide (2 < a0.size) = true := decide_eq_true (by omega)
          clear c7
          by_cases c9 : (bt a0 2) = 39
          · rw [if_pos c9] at H
            have c9b0 : ((bt a0 2) == 39) = true := beq_iff_eq.mpr c9
            have c9b1 : ((bt a0 2) != 39) = false := bne_eq_false_iff_eq.mpr c9
            clear c9
            by_cases c10 : 1 < (a0.size : Int)
            · rw [if_pos c10] at H
              have c10b0 : decide (1 < (a0.size : Int)) = true := decide_eq_true c10
              have c10b1 : decide (1 < a0.size) = true := decide_eq_true (by omega)
              clear c10
              by_cases c12 : (bt a0 1) ≥ 32
              · rw [if_pos c12] at H
                have c12b0 : decide (32 ≤ (bt a0 1)) = true := decide_eq_true c12
                clear c12
                by_cases c14 : (bt a0 1) ≤ 126
                · rw [if_pos c14] at H
                  have c14b0 : decide ((bt a0 1) ≤ 126) = true := decide_eq_true c14
                  clear c14
                  by_cases c16 : (bt a0 1) = 39
                  · rw [if_pos c16] at H
                    have c16b0 : ((bt a0 1) == 39) = true := beq_iff_eq.mpr c16
                    have c16b1 : ((bt a0 1) != 39) = false := bne_eq_false_iff_eq.mpr c16
                    clear c16
                    simp only [Option.some.injEq, Prod.mk.injEq] at H
                    obtain ⟨rfl, rfl⟩ := H
                    have p8 : 0 ≤ (2 : Int) := (by omega)
                    have q8 : 2 < a0.size := (by have : (2 : Int) < (a0.size : Int) := of_decide_eq_true (by first | (with_reducible assumption) | assumption); omega)
                    have hx8 : ∀ h : 2 < a0.size, ((a0[2]'h).toNat : Int) = bt a0 2 := bt_at a0 2
                    clear p8
                    have qi8 : (2 < (a0.size : Int)) = True := eq_true (of_decide_eq_true (by first | (with_reducible assumption) | assumption))
                    replace q8 := eq_true q8
                    have p11 : 0 ≤ (1 : Int) := (by omega)
                    have q11 : 1 < a0.size := (by have : (1 : Int) < (a0.size : Int) := of_decide_eq_true (by first | (with_reducible assumption) | assumption); omega)
                    have hx11 : ∀ h : 1 < a0.size, ((a0[1]'h).toNat : Int) = bt a0 1 := bt_at a0 1
                    clear p11
                    have qi11 : (1 < (a0.size : Int)) = True := eq_true (of_decide_eq_true (by first | (with_reducible assumption) | assumption))
                    replace q11 := eq_true q11
                    have p13 : 0 ≤ (1 : Int) := (by omega)
                    have q13 : 1 < a0.size := (by have : (1 : Int) < (a0.size : Int) := of_decide_eq_true (by first | (with_reducible assumption) | assumption); omega)
                    have hx13 : ∀ h : 1 < a0.size, ((a0[1]'h).toNat : Int) = bt a0 1 := bt_at a0 1
                    clear p13
                    have qi13 : (1 < (a0.size : Int)) = True := eq_true (of_decide_eq_true (by first | (with_reducible assumption) | assumption))
                    replace q13 := eq_true q13
                    have p15 : 0 ≤ (1 : Int) := (by omega)
                    have q15 : 1 < a0.size := (by have : (1 : Int) < (a0.size : Int) := of_decide_eq_true (by first | (with_reducible assumption) | assumption); omega)
                    have hx15 : ∀ h : 1 < a0.size, ((a0[1]'h).toNat : Int) = bt a0 1 := bt_at a0 1
                    clear p15
                    have qi15 : (1 < (a0.size : Int)) = True := eq_true (of_decide_eq_true (by first | (with_reducible assumption) | assumption))
                    replace q15 := eq_true q15
                    go_wp2
                    go_ret2
                    exact ⟨by first | rfl | (simp; done) | (simp [*]; done), by repeat (first | exact Drawn0.refl _ | apply Drawn0.step)⟩
                  · rw [if_neg c16] at H
                    have c16b0 : ((bt a0 1) == 39) = false := beq_eq_false_iff_ne.mpr c16
                    have c16b1 : ((bt a0 1) != 39) = true := bne_iff_ne.mpr c16
                    by_cases c18 : (bt a0 1) = 92
                    · rw [if_pos c18] at H
                      have c18b0 : ((bt a0 1) == 92) = true := beq_iff_eq.mpr c18
                      have c18b1 : ((bt a0 1) != 92) = false := bne_eq_false_iff_eq.mpr c18
                      clear c18
                      simp only [Option.some.injEq, Prod.mk.injEq] at H
                      obtain ⟨rfl, rfl⟩ := H
                      have p8 : 0 ≤ (2 : Int) := (by omega)
                      have q8 : 2 < a0.size := (by have : (2 : Int) < (a0.size : Int) := of_decide_eq_true (by first | (with_reducible assumption) | assumption); omega)
                      have hx8 : ∀ h : 2 < a0.size, ((a0[2]'h).toNat : Int) = bt a0 2 := bt_at a0 2
                      clear p8
                      have qi8 : (2 < (a0.size : Int)) = True := eq_true (of_decide_eq_true (by first | (with_reducible assumption) | assumption))
                      replace q8 := eq_true q8
                      have p11 : 0 ≤ (1 : Int) := (by omega)
                      have q11 : 1 < a0.size := (by have : (1 : Int) < (a0.size : Int) := of_decide_eq_true (by first | (with_reducible assumption) | assumption); omega)
                      have hx11 : ∀ h : 1 < a0.size, ((a0[1]'h).toNat : Int) = bt a0 1 := bt_at a0 1
                      clear p11
                      have qi11 : (1 < (a0.size : Int)) = True := eq_true (of_decide_eq_true (by first | (with_reducible assumption) | assumption))
                      replace q11 := eq_true q11
                      have p13 : 0 ≤ (1 : Int) := (by omega)
                      have q13 : 1 < a0.size := (by have : (1 : Int) < (a0.size : Int) := of_decide_eq_true (by first | (with_reducible assumption) | assumption); omega)
                      have hx13 : ∀ h : 1 < a0.size, ((a0[1]'h).toNat : Int) = bt a0 1 := bt_at a0 1
                      clear p13
                      have qi13 : (1 < (a0.size : Int)) = True := eq_true (of_decide_eq_true (by first | (with_reducible assumption) | assumption))
                      replace q13 := eq_true q13
                      have p15 : 0 ≤ (1 : Int) := (by omega)
                      have q15 : 1 < a0.size := (by have : (1 : Int) < (a0.size : Int) := of_decide_eq_true (by first | (with_reducible assumption) | assumption); omega)
                      have hx15 : ∀ h : 1 < a0.size, ((a0[1]'h).toNat : Int) = bt a0 1 := bt_at a0 1
                      clear p15
                      have qi15 : (1 < (a0.size : Int)) = True := eq_true (of_decide_eq_true (by first | (with_reducible assumption) | assumption))
                      replace q15 := eq_true q15
                      have p17 : 0 ≤ (1 : Int) := (by omega)
                      have q17 : 1 < a0.size := (by have : (1 : Int) < (a0.size : Int) := of_decide_eq_true (by first | (with_reducible assumption) | assumption); omega)
                      have hx17 : ∀ h : 1 < a0.size, ((a0[1]'h).toNat : Int) = bt a0 1 := bt_at a0 1
                      clear p17
                      have qi17 : (1 < (a0.size : Int)) = True := eq_true (of_decide_eq_true (by first | (with_reducible assumption) | assumption))
                      replace q17 := eq_true q17
                      go_wp2
                      go_ret2
                      exact ⟨by first | rfl | (simp; done) | (simp [*]; done), by repeat (first | exact Drawn0.refl _ | apply Drawn0.step)⟩
                    · rw [if_neg c18] at H
                      have c18b0 : ((bt a0 1) == 92) = false := beq_eq_false_iff_ne.mpr c18
                      have c18b1 : ((bt a0 1) != 92) = true := bne_iff_ne.mpr c18
                      simp only [Option.some.injEq, Prod.mk.injEq] at H
                      obtain ⟨rfl, rfl⟩ := H
                      have p8 : 0 ≤ (2 : Int) := (by omega)
                      have q8 : 2 < a0.size := (by have : (2 : Int) < (a0.size : Int) := of_decide_eq_true (by first | (with_reducible assumption) | assumption); omega)
                      have hx8 : ∀ h : 2 < a0.size, ((a0[2]'h).toNat : Int) = bt a0 2 := bt_at a0 2
                      clear p8
                      have qi8 : (2 < (a0.size : Int)) = True := eq_true (of_decide_eq_true (by first | (with_reducible assumption) | assumption))
                      replace q8 := eq_true q8
                      have p11 : 0 ≤ (1 : Int) := (by omega)
                      have q11 : 1 < a0.size := (by have : (1 : Int) < (a0.size : Int) := of_decide_eq_true (by first | (with_reducible assumption) | assumption); omega)
                      have hx11 : ∀ h : 1 < a0.size, ((a0[1]'h).toNat : Int) = bt a0 1 := bt_at a0 1
                      clear p11
                      have qi11 : (1 < (a0.size : Int)) = True := eq_true (of_decide_eq_true (by first | (with_reducible assumption) | assumption))
                      replace q11 := eq_true q11
                      have p13 : 0 ≤ (1 : Int) := (by omega)
                      have q13 : 1 < a0.size := (by have : (1 : Int) < (a0.size : Int) := of_decide_eq_true (by first | (with_reducible assumption) | assumption); omega)
                      have hx13 : ∀ h : 1 < a0.size, ((a0[1]'h).toNat : Int) = bt a0 1 := bt_at a0 1
                      clear p13
                      have qi13 : (1 < (a0.size : Int)) = True := eq_true (of_decide_eq_true (by first | (with_reducible assumption) | assumption))
                      replace q13 := eq_true q13
                      have p15 : 0 ≤ (1 : Int) := (by omega)
                      have q15 : 1 < a0.size := (by have : (1 : Int) < (a0.size : Int) := of_decide_eq_true (by first | (with_reducible assumption) | assumption); omega)
                      have hx15 : ∀ h : 1 < a0.size, ((a0[1]'h).toNat : Int) = bt a0 1 := bt_at a0 1
                      clear p15
                      have qi15 : (1 < (a0.size : Int)) = True := eq_true (of_decide_eq_true (by first | (with_reducible assumption) | assumption))
                      replace q15 := eq_true q15
                      have p17 : 0 ≤ (1 : Int) := (by omega)
                      have q17 : 1 < a0.size := (by have : (1 : Int) < (a0.size : Int) := of_decide_eq_true (by first | (with_reducible assumption) | assumption); omega)
                      have hx17 : ∀ h : 1 < a0.size, ((a0[1]'h).toNat : Int) = bt a0 1 := bt_at a0 1
                      clear p17
                      have qi17 : (1 < (a0.size : Int)) = True := eq_true (of_decide_eq_true (by first | (with_reducible assumption) | assumption))
                      replace q17 := eq_true q17
                      have p19 : 0 ≤ (1 : Int) := (by omega)
                      have q19 : 1 < a0.size := (by have : (1 : Int) < (a0.size : Int) := of_decide_eq_true (by first | (with_reducible assumption) | assumption); omega)
                      have hx19 : ∀ h : 1 < a0.size, ((a0[1]'h).toNat : Int) = bt a0 1 := bt_at a0 1
                      clear p19
                      have qi19 : (1 < (a0.size : Int)) = True := eq_true (of_decide_eq_true (by first | (with_reducible assumption) | assumption))
                      replace q19 := eq_true q19
                      go_wp2
                      go_ret2
                      exact ⟨by first | rfl | (simp; done) | (simp [*]; done), by repeat (first | exact Drawn0.refl _ | apply Drawn0.step)⟩
                · rw [if_neg c14] at H
                  have c14b0 : decide ((bt a0 1) ≤ 126) = false := decide_eq_false c14
                  clear c14
                  simp only [Option.some.injEq, Prod.mk.injEq] at H
                  obtain ⟨rfl, rfl⟩ := H
                  have p8 : 0 ≤ (2 : Int) := (by omega)
                  have q8 : 2 < a0.size := (by have : (2 : Int) < (a0.size : Int) := of_decide_eq_true (by first | (with_reducible assumption) | assumption); omega)
                  have hx8 : ∀ h : 2 < a0.size, ((a0[2]'h).toNat : Int) = bt a0 2 := bt_at a0 2
                  clear p8
                  have qi8 : (2 < (a0.size : Int)) = True := eq_true (of_decide_eq_true (by first | (with_reducible assumption) | assumption))
                  replace q8 := eq_true q8
                  have p11 : 0 ≤ (1 : Int) := (by omega)
                  have q11 : 1 < a0.size := (by have : (1 : Int) < (a0.size : Int) := of_decide_eq_true (by first | (with_reducible assumption) | assumption); omega)
                  have hx11 : ∀ h : 1 < a0.size, ((a0[1]'h).toNat : Int) = bt a0 1 := bt_at a0 1
                  clear p11
                  have qi11 : (1 < (a0.size : Int)) = True := eq_true (of_decide_eq_true (by first | (with_reducible assumption) | assumption))
                  replace q11 := eq_true q11
                  have p13 : 0 ≤ (1 : Int) := (by omega)
                  have q13 : 1 < a0.size := (by have : (1 : Int) < (a0.size : Int) := of_decide_eq_true (by first | (with_reducible assumption) | assumption); omega)
                  have hx13 : ∀ h : 1 < a0.size, ((a0[1]'h).toNat : Int) = bt a0 1 := bt_at a0 1
                  clear p13
                  have qi13 : (1 < (a0.size : Int)) = True := eq_true (of_decide_eq_true (by first | (with_reducible assumption) | assumption))
                  replace q13 := eq_true q13
                  go_wp2
                  go_ret2
                  exact ⟨by first | rfl | (simp; done) | (simp [*]; done), by repeat (first | exact Drawn0.refl _ | apply Drawn0.step)⟩
              · rw [if_neg c12] at H
                have c12b0 : decide (32 ≤ (bt a0 1)) = false := decide_eq_false c12
                clear c12
                simp only [Option.some.injEq, Prod.mk.injEq] at H
                obtain ⟨rfl, rfl⟩ := H
                have p8 : 0 ≤ (2 : Int) := (by omega)
                have q8 : 2 < a0.size := (by have : (2 : Int) < (a0.size : Int) := of_decide_eq_true (by first | (with_reducible assumption) | assumption); omega)
                have hx8 : ∀ h : 2 < a0.size, ((a0[2]'h).toNat : Int) = bt a0 2 := bt_at a0 2
                clear p8
                have qi8 : (2 < (a0.size : Int)) = True := eq_true (of_decide_eq_true (by first | (with_reducible assumption) | assumption))
                replace q8 := eq_true q8
                have p11 : 0 ≤ (1 : Int) := (by omega)
                have q11 : 1 < a0.size := (by have : (1 : Int) < (a0.size : Int) := of_decide_eq_true (by first | (with_reducible assumption) | assumption); omega)
                have hx11 : ∀ h : 1 < a0.size, ((a0[1]'h).toNat : Int) = bt a0 1 := bt_at a0 1
                clear p11
                have qi11 : (1 < (a0.size : Int)) = True := eq_true (of_decide_eq_true (by first | (with_reducible assumption) | assumption))
                replace q11 := eq_true q11
                go_wp2
                go_ret2
                exact ⟨by first | rfl | (simp; done) | (simp [*]; done), by repeat (first | exact Drawn0.refl _ | apply Drawn0.step)⟩
            · rw [if_neg c10] at H
              exact absurd H (by simp)
          · rw [if_neg c9] at H
            have c9b0 : ((bt a0 2) == 39) = false := beq_eq_false_iff_ne.mpr c9
            have c9b1 : ((bt a0 2) != 39) = true := bne_iff_ne.mpr c9
            simp only [Option.some.injEq, Prod.mk.injEq] at H
            obtain ⟨rfl, rfl⟩ := H
            have p8 : 0 ≤ (2 : Int) := (by omega)
            have q8 : 2 < a0.size := (by have : (2 : Int) < (a0.size : Int) := of_decide_eq_true (by first | (with_reducible assumption) | assumption); omega)
            have hx8 : ∀ h : 2 < a0.size, ((a0[2]'h).toNat : Int) = bt a0 2 := bt_at a0 2
            clear p8
            have qi8 : (2 < (a0.size : Int)) = True := eq_true (of_decide_eq_true (by first | (with_reducible assumption) | assumption))
            replace q8 := eq_true q8
            go_wp2
            go_ret2
            exact ⟨by first | rfl | (simp; done) | (simp [*]; done), by repeat (first | exact Drawn0.refl _ | apply Drawn0.step)⟩
        · rw [if_neg c7] at H
          exact absurd H (by simp)
      · replace c6 := Bool.eq_false_iff.mpr c6
        subst c6
        have H1 : (if a0.toList = ([] : List UInt8) then (hauberkref05_Mean.j1 kj1 a0 true) else (if (a0.size : Int) > 20 then (hauberkref05_Mean.j1 kj1 a0 true) else (if 0 < (a0.size : Int) then ((hauberkref05_digit.f (bt a0 0)).bind fun t117 => (hauberkref05_Mean.j1 kj1 a0 (!t117))) else (none)))) = some (r1, r2) := by rw [if_neg (show ¬ (false = true) by decide)] at H; exact H
        clear H
        have H := H1
        clear H1
        have HC20 := Aside0.mk H
        clear H
        go_upto_region 5 with (fail)
        go_cut [54] (fun v54 wc => ∃ (kq : Nat) (x54_19 : Bool), v54 = .bool x54_19 ∧ Aside0 (hauberkref05_Mean.j1 kq a0 x54_19 = some (r1, r2)) ∧ Aside0 (kq ≤ kj1) ∧ Drawn0 w wc)
        case first =>
          have H := HC20.out
          clear HC20
          by_cases c21 : a0.toList = ([] : List UInt8)
          · rw [if_pos c21] at H
            have c21b0 : (a0.toList == ([] : List UInt8)) = true := beq_iff_eq.mpr c21
            have c21b1 : (a0.toList != ([] : List UInt8)) = false := bne_eq_false_iff_eq.mpr c21
            clear c21
            (first | rw [c21b0] | (simp only [i64_w, i32_w]; rw [c21b0]) | skip)
            have H' := Aside0.mk H
            clear H
            go_wp2
            go_meet
            case rel => exact ⟨_, (true), (by first | rfl | (simp; done) | (simp [*]; done)), H', ⟨by have := HJ1.out; first | omega | exact Nat.le_refl _⟩, by repeat (first | exact Drawn0.refl _ | apply Drawn0.step)⟩
          · rw [if_neg c21] at H
            have c21b0 : (a0.toList == ([] : List UInt8)) = false := beq_eq_false_iff_ne.mpr c21
            have c21b1 : (a0.toList != ([] : List UInt8)) = true := bne_iff_ne.mpr c21
            (first | rw [c21b0] | (simp only [i64_w, i32_w]; rw [c21b0]) | skip)
            by_cases c22 : (a0.size : Int) > 20
            · rw [if_pos c22] at H
              have c22b0 : decide (20 < (a0.size : Int)) = true := decide_eq_true c22
              have c22b1 : decide (20 < a0.size) = true := decide_eq_true (by omega)
              clear c22
              have H' := Aside0.mk H
              clear H
              go_wp2
              go_meet
              case rel => exact ⟨_, (true), (by first | rfl | (simp; done) | (simp [*]; done)), H', ⟨by have := HJ1.out; first | omega | exact Nat.le_refl _⟩, by repeat (first | exact Drawn0.refl _ | apply Drawn0.step)⟩
            · rw [if_neg c22] at H
              have c22b0 : decide (20 < (a0.size : Int)) = false := decide_eq_false c22
              have c22b1 : decide (20 < a0.size) = false := decide_eq_false (by omega)
              clear c22
              by_cases c23 : 0 < (a0.size : Int)
              · rw [if_pos c23] at H
                have c23b0 : decide (0 < (a0.size : Int)) = true := decide_eq_true c23
                have c23b1 : decide (0 < a0.size) = true := decide_eq_true (by omega)
                clear c23
                replace H := Option.bind_eq_some_iff.mp H
                obtain ⟨t117, A250, H⟩ := H
                replace H : (hauberkref05_Mean.j1 kj1 a0 (!t117)) = some (r1, r2) := H
                have A25 := Aside0.mk A250
                clear A250
                have H' := Aside0.mk H
                clear H
                have p24 : 0 ≤ (0 : Int) := (by omega)
                have q24 : 0 < a0.size := (by have : (0 : Int) < (a0.size : Int) := of_decide_eq_true (by first | (with_reducible assumption) | assumption); omega)
                have hx24 : ∀ h : 0 < a0.size, ((a0[0]'h).toNat : Int) = bt a0 0 := bt_at a0 0
                clear p24
                have qi24 : (0 < (a0.size : Int)) = True := eq_true (of_decide_eq_true (by first | (with_reducible assumption) | assumption))
                replace q24 := eq_true q24
                go_wp2_with (first | (go_at_call 25; (with_reducible refine (hauberkref05_digit.calls (bt a0 0) t117 _ ?side1 A25.out).mono ?_); (case side1 => (first | ((repeat (first | (with_reducible exact hL) | apply Laid.drewN | apply Laid.drew | apply Laid.alloc)); done) | exact Laid.below hL (by repeat (first | (with_reducible first | exact HB.out | apply below_alloc | apply pw_below_drewN | apply below_drew1) | exact HB.out)))); rintro e w' ⟨rfl, ⟨nd, rfl⟩⟩))
                go_meet
                case rel => exact ⟨_, (!t117), (by first | rfl | (simp; done) | (simp [*]; done)), H', ⟨by have := HJ1.out; first | omega | exact Nat.le_refl _⟩, by repeat (first | exact Drawn0.refl _ | apply Drawn0.step)⟩
              · rw [if_neg c23] at H
                exact absurd H (by simp)
        case rest =>
          clear HC20
          try clear c1
          try clear p1
          try clear q1
          try clear hx1
          try clear qi1
          try clear c2
          try clear p2
          try clear q2
          try clear hx2
          try clear qi2
          try clear c3
          try clear c3b0
          try clear c3b1
          try clear c4
          try clear c4b0
          try clear c4b1
          try clear p5
          try clear q5
          try clear hx5
          try clear qi5
          try clear c6
          try clear c7
          try clear c7b0
          try clear c7b1
          try clear p8
          try clear q8
          try clear hx8
          try clear qi8
          try clear c9
          try clear c9b0
          try clear c9b1
          try clear c10
          try clear c10b0
          try clear c10b1
          try clear p11
          try clear q11
          try clear hx11
          try clear qi11
          try clear c12
          try clear c12b0
          try clear p13
          try clear q13
          try clear hx13
          try clear qi13
          try clear c14
          try clear c14b0
          try clear c15
          try clear p15
          try clear q15
          try clear hx15
          try clear qi15
          try clear c16
          try clear c16b0
          try clear c16b1
          try clear p17
          try clear q17
          try clear hx17
          try clear qi17
          try clear c18
          try clear c18b0
          try clear c18b1
          try clear p19
          try clear q19
          try clear hx19
          try clear qi19
          try clear c21
          try clear c21b0
          try clear c21b1
          try clear c22
          try clear c22b0
          try clear c22b1
          try clear c23
          try clear c23b0
          try clear c23b1
          try clear p24
          try clear q24
          try clear hx24
          try clear qi24
          try clear p11
          try clear p13
          try clear p15
          try clear p17
          try clear p19
          try clear p2
          try clear p24
          try clear p5
          try clear p8
          try clear q11
          try clear q13
          try clear q15
          try clear q17
          try clear q19
          try clear q24
          try clear q5
          try clear q8
          obtain ⟨kq, x54_19, rfl, HA, HJ19, ⟨mc19, rfl⟩⟩ := hcut
          cases kq with
          | zero => exact absurd HA.out (by simp [hauberkref05_Mean.j1])
          | succ kj19 =>
            have H := HA.out
            clear HA
            simp only [hauberkref05_Mean.j1] at H
            by_cases c26 : x54_19 = true
            · subst c26
              have H1 : (some (0, false)) = some (r1, r2) := by rw [if_pos rfl] at H; exact H
              clear H
              have H := H1
              clear H1
              simp only [Option.some.injEq, Prod.mk.injEq] at H
              obtain ⟨rfl, rfl⟩ := H
              go_wp2
              go_ret2
              exact ⟨by first | rfl | (simp; done) | (simp [*]; done), by repeat (first | exact Drawn0.refl _ | apply Drawn0.step)⟩
            · replace c26 := Bool.eq_false_iff.mpr c26
              subst c26
              have H1 : ((hauberkref05_starts.f a0 0 (⟨#[48, 120]⟩ : ByteArray)).bind fun t118 => (if t118 = true then (hauberkref05_Mean.j2 kj19 a0 2 16) else (hauberkref05_Mean.j2 kj19 a0 0 10))) = some (r1, r2) := by rw [if_neg (show ¬ (false = true) by decide)] at H; exact H
              clear H
              have H := H1
              clear H1
              replace H := Option.bind_eq_some_iff.mp H
              obtain ⟨t118, A270, H⟩ := H
              replace H : (if t118 = true then (hauberkref05_Mean.j2 kj19 a0 2 16) else (hauberkref05_Mean.j2 kj19 a0 0 10)) = some (r1, r2) := H
              have A27 := Aside0.mk A270
              clear A270
              have HC28 := Aside0.mk H
              clear H
              go_upto_if 56 with (first | ((with_reducible refine gate_callee (f := 26) rfl ?_); refine goesL_ (some 56) rfl rfl Tryd.func26 (by kernel_rfl) rfl #[.string a0, .int .i64 0, .string (⟨#[48, 120]⟩ : ByteArray)] rfl (by (try simp only [List.map_toArray, List.map_cons, List.map_nil]); first | done | rfl | (simp only [List.length_drop, List.length_take]; rfl)) ?_; (with_reducible refine (hauberkref05_starts.calls a0 0 (⟨#[48, 120]⟩ : ByteArray) t118 _ ?side1 A27.out).mono ?_); (case side1 => (first | ((repeat (first | (with_reducible exact hL) | apply Laid.drewN | apply Laid.drew | apply Laid.alloc)); done) | exact Laid.below hL (by repeat (first | (with_reducible first | exact HB.out | apply below_alloc | apply pw_below_drewN | apply below_drew1) | exact HB.out)))); rintro e w' ⟨rfl, ⟨nd, rfl⟩⟩; refine ⟨_, rfl, ?_⟩))
              (try simp only [Act.put, List.setIfInBounds_toArray, List.set_cons_zero, List.set_cons_succ])
              go_cut [4, 5] (fun v4 v5 wc => ∃ (kq : Nat) (x4_27 : Int) (x5_27 : Int), v4 = .int .i64 x4_27 ∧ v5 = .int .u64 x5_27 ∧ Aside0 (hauberkref05_Mean.j2 kq a0 x4_27 x5_27 = some (r1, r2)) ∧ Aside0 (kq ≤ kj19) ∧ Drawn0 w wc)
              case first =>
                have H := HC28.out
                clear HC28
                by_cases c29 : t118 = true
                · subst c29
                  have H1 : (hauberkref05_Mean.j2 kj19 a0 2 16) = some (r1, r2) := by rw [if_pos rfl] at H; exact H
                  clear H
                  have H := H1
                  clear H1
                  have H' := Aside0.mk H
                  clear H
                  go_wp2
                  go_meet
                  case rel => exact ⟨_, (2), (16), (by first | rfl | (simp; done) | (simp [*]; done)), (by first | rfl | (simp; done) | (simp [*]; done)), H', ⟨by have := HJ1.out; have := HJ19.out; first | omega | exact Nat.le_refl _⟩, by repeat (first | exact Drawn0.refl _ | apply Drawn0.step)⟩
                · replace c29 := Bool.eq_false_iff.mpr c29
                  subst c29
                  have H1 : (hauberkref05_Mean.j2 kj19 a0 0 10) = some (r1, r2) := by rw [if_neg (show ¬ (false = true) by decide)] at H; exact H
                  clear H
                  have H := H1
                  clear H1
                  have H' := Aside0.mk H
                  clear H
                  go_wp2
                  go_meet
                  case rel => exact ⟨_, (0), (10), (by first | rfl | (simp; done) | (simp [*]; done)), (by first | rfl | (simp; done) | (simp [*]; done)), H', ⟨by have := HJ1.out; have := HJ19.out; first | omega | exact Nat.le_refl _⟩, by repeat (first | exact Drawn0.refl _ | apply Drawn0.step)⟩
              case rest =>
                clear HC28
                try clear c1
                try clear p1
                try clear q1
                try clear hx1
                try clear qi1
                try clear c2
                try clear p2
                try clear q2
                try clear hx2
                try clear qi2
                try clear c3
                try clear c3b0
                try clear c3b1
                try clear c4
                try clear c4b0
                try clear c4b1
                try clear p5
                try clear q5
                try clear hx5
                try clear qi5
                try clear c6
                try clear c7
                try clear c7b0
                try clear c7b1
                try clear p8
                try clear q8
                try clear hx8
                try clear qi8
                try clear c9
                try clear c9b0
                try clear c9b1
                try clear c10
                try clear c10b0
                try clear c10b1
                try clear p11
                try clear q11
                try clear hx11
                try clear qi11
                try clear c12
                try clear c12b0
                try clear p13
                try clear q13
                try clear hx13
                try clear qi13
                try clear c14
                try clear c14b0
                try clear c15
                try clear p15
                try clear q15
                try clear hx15
                try clear qi15
                try clear c16
                try clear c16b0
                try clear c16b1
                try clear p17
                try clear q17
                try clear hx17
                try clear qi17
                try clear c18
                try clear c18b0
                try clear c18b1
                try clear c19
                try clear p19
                try clear q19
                try clear hx19
                try clear qi19
                try clear c21
                try clear c21b0
                try clear c21b1
                try clear c22
                try clear c22b0
                try clear c22b1
                try clear c23
                try clear c23b0
                try clear c23b1
                try clear p24
                try clear q24
                try clear hx24
                try clear qi24
                try clear c26
                try clear c29
                try clear p1
                try clear p11
                try clear p13
                try clear p15
                try clear p17
                try clear p19
                try clear p2
                try clear p24
                try clear p5
                try clear p8
                try clear q1
                try clear q11
                try clear q13
                try clear q15
                try clear q17
                try clear q19
                try clear q2
                try clear q24
                try clear q5
                try clear q8
                obtain ⟨kq, x4_27, x5_27, rfl, rfl, HA, HJ27, ⟨mc27, rfl⟩⟩ := hcut
                cases kq with
                | zero => exact absurd HA.out (by simp [hauberkref05_Mean.j2])
                | succ kj27 =>
                  have H := HA.out
                  clear HA
                  simp only [hauberkref05_Mean.j2] at H
                  by_cases c30 : x4_27 = (a0.size : Int)
                  · rw [if_pos c30] at H
                    have c30b0 : (x4_27 == (a0.size : Int)) = true := beq_iff_eq.mpr c30
                    have c30b1 : (x4_27 != (a0.size : Int)) = false := bne_eq_false_iff_eq.mpr c30
                    clear c30
                    simp only [Option.some.injEq, Prod.mk.injEq] at H
                    obtain ⟨rfl, rfl⟩ := H
                    go_wp2
                    go_ret2
                    exact ⟨by first | rfl | (simp; done) | (simp [*]; done), by repeat (first | exact Drawn0.refl _ | apply Drawn0.step)⟩
                  · rw [if_neg c30] at H
                    have c30b0 : (x4_27 == (a0.size : Int)) = false := beq_eq_false_iff_ne.mpr c30
                    have c30b1 : (x4_27 != (a0.size : Int)) = true := bne_iff_ne.mpr c30
                    have H' := Aside0.mk H
                    clear H
                    go_wp2
                    go_loopg [4, 6] kj27 (fun kq v4 v6 w' => ∃ (x4_4 : Int) (x6_4 : Int), v4 = .int .i64 x4_4 ∧ v6 = .int .u64 x6_4 ∧ Aside0 (hauberkref05_Mean.l0 kq a0 x4_4 x5_27 x6_4 = some (r1, r2)) ∧ Aside0 (kq ≤ kj27) ∧ Drawn0 w w')
                    case atStart => exact ⟨(x4_27), (0), (by first | rfl | (simp; done) | (simp [*]; done)), (by first | rfl | (simp; done) | (simp [*]; done)), H', ⟨Nat.le_refl _⟩, by repeat (first | exact Drawn0.refl _ | apply Drawn0.step)⟩
                    case round =>
                      clear H'
                      try clear c1
                      try clear p1
                      try clear q1
                      try clear hx1
                      try clear qi1
                      try clear c2
                      try clear p2
                      try clear q2
                      try clear hx2
                      try clear qi2
                      try clear c3
                      try clear c3b0
                      try clear c3b1
                      try clear c4
                      try clear c4b0
                      try clear c4b1
                      try clear p5
                      try clear q5
                      try clear hx5
                      try clear qi5
                      try clear c6
                      try clear c7
                      try clear c7b0
                      try clear c7b1
                      try clear p8
                      try clear q8
                      try clear hx8
                      try clear qi8
                      try clear c9
                      try clear c9b0
                      try clear c9b1
                      try clear c10
                      try clear c10b0
                      try clear c10b1
                      try clear p11
                      try clear q11
                      try clear hx11
                      try clear qi11
                      try clear c12
                      try clear c12b0
                      try clear p13
                      try clear q13
                      try clear hx13
                      try clear qi13
                      try clear c14
                      try clear c14b0
                      try clear c15
                      try clear p15
                      try clear q15
                      try clear hx15
                      try clear qi15
                      try clear c16
                      try clear c16b0
                      try clear c16b1
                      try clear p17
                      try clear q17
                      try clear hx17
                      try clear qi17
                      try clear c18
                      try clear c18b0
                      try clear c18b1
                      try clear c19
                      try clear p19
                      try clear q19
                      try clear hx19
                      try clear qi19
                      try clear c21
                      try clear c21b0
                      try clear c21b1
                      try clear c22
                      try clear c22b0
                      try clear c22b1
                      try clear c23
                      try clear c23b0
                      try clear c23b1
                      try clear p24
                      try clear q24
                      try clear hx24
                      try clear qi24
                      try clear c26
                      try clear c27
                      try clear c29
                      try clear c30
                      try clear c30b0
                      try clear c30b1
                      try clear p1
                      try clear p11
                      try clear p13
                      try clear p15
                      try clear p17
                      try clear p19
                      try clear p2
                      try clear p24
                      try clear p5
                      try clear p8
                      try clear q1
                      try clear q11
                      try clear q13
                      try clear q15
                      try clear q17
                      try clear q19
                      try clear q2
                      try clear q24
                      try clear q5
                      try clear q8
                      obtain ⟨x4_4, x6_4, rfl, rfl, HA, HK4, ⟨m4, rfl⟩⟩ := hrel
                      cases gk with
                      | zero => exact absurd HA.out (by simp [hauberkref05_Mean.l0])
                      | succ k4 =>
                        have H := HA.out
                        clear HA
                        simp only [hauberkref05_Mean.l0] at H
                        by_cases c31 : x4_4 < (a0.size : Int)
                        · rw [if_pos c31] at H
                          have c31b0 : decide (x4_4 < (a0.size : Int)) = true := decide_eq_true c31
                          clear c31
                          by_cases c32 : 0 ≤ x4_4
                          · rw [if_pos c32] at H
                            have c32b0 : decide (0 ≤ x4_4) = true := decide_eq_true c32
                            clear c32
                            replace H := Option.bind_eq_some_iff.mp H
                            obtain ⟨t119, A340, H⟩ := H
                            replace H : (if t119 = true then (if (((bt a0 x4_4) - 48) % 256) ≥ x5_27 then (some (0, false)) else (if x5_27 = 0 then (none) else (if x6_4 > (IntKind.u64.wrap (Int.tdiv (9223372036854775807 - (((bt a0 x4_4) - 48) % 256)) x5_27)) then (some (0, false)) else (hauberkref05_Mean.l0 k4 a0 (wrap64 (x4_4 + 1)) x5_27 (IntKind.u64.wrap ((IntKind.u64.wrap (x6_4 * x5_27)) + (((bt a0 x4_4) - 48) % 256))))))) else (if (bt a0 x4_4) ≥ 97 then (hauberkref05_Mean.j4 k4 a0 x4_4 x5_27 x6_4 99 (decide ((bt a0 x4_4) ≤ 102))) else (hauberkref05_Mean.j4 k4 a0 x4_4 x5_27 x6_4 99 false))) = some (r1, r2) := H
                            have A34 := Aside0.mk A340
                            clear A340
                            by_cases c35 : t119 = true
                            · subst c35
                              have H1 : (if (((bt a0 x4_4) - 48) % 256) ≥ x5_27 then (some (0, false)) else (if x5_27 = 0 then (none) else (if x6_4 > (IntKind.u64.wrap (Int.tdiv (9223372036854775807 - (((bt a0 x4_4) - 48) % 256)) x5_27)) then (some (0, false)) else (hauberkref05_Mean.l0 k4 a0 (wrap64 (x4_4 + 1)) x5_27 (IntKind.u64.wrap ((IntKind.u64.wrap (x6_4 * x5_27)) + (((bt a0 x4_4) - 48) % 256))))))) = some (r1, r2) := by rw [if_pos rfl] at H; exact H
                              clear H
                              have H := H1
                              clear H1
                              by_cases c37 : (((bt a0 x4_4) - 48) % 256) ≥ x5_27
                              · rw [if_pos c37] at H
                                have c37b0 : decide (x5_27 ≤ (((bt a0 x4_4) - 48) % 256)) = true := decide_eq_true c37
                                clear c37
                                simp only [Option.some.injEq, Prod.mk.injEq] at H
                                obtain ⟨rfl, rfl⟩ := H
                                have p33 : 0 ≤ (x4_4 : Int) := of_decide_eq_true (by first | (with_reducible assumption) | assumption)
                                have q33 : x4_4 < (a0.size : Int) := of_decide_eq_true (by first | (with_reducible assumption) | assumption)
                                have hx33 := bt_at a0 x4_4
                                replace p33 := eq_true p33
                                replace q33 := eq_true q33
                                go_wp2_with (first | ((with_reducible refine gate_callee (f := 25) rfl ?_); refine goesL_ (some 70) rfl rfl Tryd.func25 (by kernel_rfl) rfl #[.int .u8 (bt a0 x4_4)] rfl (by (try simp only [List.map_toArray, List.map_cons, List.map_nil]); first | done | rfl | (simp only [List.length_drop, List.length_take]; rfl)) ?_; (with_reducible refine (hauberkref05_digit.calls (bt a0 x4_4) true _ ?side1 A34.out).mono ?_); (case side1 => (first | ((repeat (first | (with_reducible exact hL) | apply Laid.drewN | apply Laid.drew | apply Laid.alloc)); done) | exact Laid.below hL (by repeat (first | (with_reducible first | exact HB.out | apply below_alloc | apply pw_below_drewN | apply below_drew1) | exact HB.out)))); rintro e w' ⟨rfl, ⟨nd, rfl⟩⟩; refine ⟨_, rfl, ?_⟩; have p36 : 0 ≤ (x4_4 : Int) := of_decide_eq_true (by first | (with_reducible assumption) | assumption); have q36 : x4_4 < (a0.size : Int) := of_decide_eq_true (by first | (with_reducible assumption) | assumption); have hx36 := bt_at a0 x4_4; replace p36 := eq_true p36; replace q36 := eq_true q36))
                                go_ret2
                                exact ⟨by first | rfl | (simp; done) | (simp [*]; done), by repeat (first | exact Drawn0.refl _ | apply Drawn0.step)⟩
                              · rw [if_neg c37] at H
                                have c37b0 : decide (x5_27 ≤ (((bt a0 x4_4) - 48) % 256)) = false := decide_eq_false c37
                                clear c37
                                by_cases c38 : x5_27 = 0
                                · rw [if_pos c38] at H
                                  exact absurd H (by simp)
                                · rw [if_neg c38] at H
                                  have c38b0 : (x5_27 == 0) = false := beq_eq_false_iff_ne.mpr c38
                                  have c38b1 : (x5_27 != 0) = true := bne_iff_ne.mpr c38
                                  by_cases c39 : x6_4 > (IntKind.u64.wrap (Int.tdiv (9223372036854775807 - (((bt a0 x4_4) - 48) % 256)) x5_27))
                                  · rw [if_pos c39] at H
                                    have c39b0 : decide ((IntKind.u64.wrap (Int.tdiv (9223372036854775807 - (((bt a0 x4_4) - 48) % 256)) x5_27)) < x6_4) = true := decide_eq_true c39
                                    clear c39
                                    simp only [Option.some.injEq, Prod.mk.injEq] at H
                                    obtain ⟨rfl, rfl⟩ := H
                                    have p33 : 0 ≤ (x4_4 : Int) := of_decide_eq_true (by first | (with_reducible assumption) | assumption)
                                    have q33 : x4_4 < (a0.size : Int) := of_decide_eq_true (by first | (with_reducible assumption) | assumption)
                                    have hx33 := bt_at a0 x4_4
                                    replace p33 := eq_true p33
                                    replace q33 := eq_true q33
                                    go_wp2_with (first | ((with_reducible refine gate_callee (f := 25) rfl ?_); refine goesL_ (some 70) rfl rfl Tryd.func25 (by kernel_rfl) rfl #[.int .u8 (bt a0 x4_4)] rfl (by (try simp only [List.map_toArray, List.map_cons, List.map_nil]); first | done | rfl | (simp only [List.length_drop, List.length_take]; rfl)) ?_; (with_reducible refine (hauberkref05_digit.calls (bt a0 x4_4) true _ ?side1 A34.out).mono ?_); (case side1 => (first | ((repeat (first | (with_reducible exact hL) | apply Laid.drewN | apply Laid.drew | apply Laid.alloc)); done) | exact Laid.below hL (by repeat (first | (with_reducible first | exact HB.out | apply below_alloc | apply pw_below_drewN | apply below_drew1) | exact HB.out)))); rintro e w' ⟨rfl, ⟨nd, rfl⟩⟩; refine ⟨_, rfl, ?_⟩; have p36 : 0 ≤ (x4_4 : Int) := of_decide_eq_true (by first | (with_reducible assumption) | assumption); have q36 : x4_4 < (a0.size : Int) := of_decide_eq_true (by first | (with_reducible assumption) | assumption); have hx36 := bt_at a0 x4_4; replace p36 := eq_true p36; replace q36 := eq_true q36))
                                    go_ret2
                                    exact ⟨by first | rfl | (simp; done) | (simp [*]; done), by repeat (first | exact Drawn0.refl _ | apply Drawn0.step)⟩
                                  · rw [if_neg c39] at H
                                    have c39b0 : decide ((IntKind.u64.wrap (Int.tdiv (9223372036854775807 - (((bt a0 x4_4) - 48) % 256)) x5_27)) < x6_4) = false := decide_eq_false c39
                                    clear c39
                                    have H' := Aside0.mk H
                                    clear H
                                    have p33 : 0 ≤ (x4_4 : Int) := of_decide_eq_true (by first | (with_reducible assumption) | assumption)
                                    have q33 : x4_4 < (a0.size : Int) := of_decide_eq_true (by first | (with_reducible assumption) | assumption)
                                    have hx33 := bt_at a0 x4_4
                                    replace p33 := eq_true p33
                                    replace q33 := eq_true q33
                                    go_wp2_with (first | ((with_reducible refine gate_callee (f := 25) rfl ?_); refine goesL_ (some 70) rfl rfl Tryd.func25 (by kernel_rfl) rfl #[.int .u8 (bt a0 x4_4)] rfl (by (try simp only [List.map_toArray, List.map_cons, List.map_nil]); first | done | rfl | (simp only [List.length_drop, List.length_take]; rfl)) ?_; (with_reducible refine (hauberkref05_digit.calls (bt a0 x4_4) true _ ?side1 A34.out).mono ?_); (case side1 => (first | ((repeat (first | (with_reducible exact hL) | apply Laid.drewN | apply Laid.drew | apply Laid.alloc)); done) | exact Laid.below hL (by repeat (first | (with_reducible first | exact HB.out | apply below_alloc | apply pw_below_drewN | apply below_drew1) | exact HB.out)))); rintro e w' ⟨rfl, ⟨nd, rfl⟩⟩; refine ⟨_, rfl, ?_⟩; have p36 : 0 ≤ (x4_4 : Int) := of_decide_eq_true (by first | (with_reducible assumption) | assumption); have q36 : x4_4 < (a0.size : Int) := of_decide_eq_true (by first | (with_reducible assumption) | assumption); have hx36 := bt_at a0 x4_4; replace p36 := eq_true p36; replace q36 := eq_true q36))
                                    go_roundg k4
                                    case measure => have := HJ1.out; have := HJ19.out; have := HJ27.out; have := HK4.out; omega
                                    case rel => exact ⟨(wrap64 (x4_4 + 1)), (IntKind.u64.wrap ((IntKind.u64.wrap (x6_4 * x5_27)) + (((bt a0 x4_4) - 48) % 256))), (by first | rfl | (simp; done) | (simp [*]; done)), (by first | rfl | (simp; done) | (simp [*]; done)), H', ⟨by have := HJ1.out; have := HJ19.out; have := HJ27.out; have := HK4.out; omega⟩, by repeat (first | exact Drawn0.refl _ | apply Drawn0.step)⟩
                            · replace c35 := Bool.eq_false_iff.mpr c35
                              subst c35
                              have H1 : (if (bt a0 x4_4) ≥ 97 then (hauberkref05_Mean.j4 k4 a0 x4_4 x5_27 x6_4 99 (decide ((bt a0 x4_4) ≤ 102))) else (hauberkref05_Mean.j4 k4 a0 x4_4 x5_27 x6_4 99 false)) = some (r1, r2) := by rw [if_neg (show ¬ (false = true) by decide)] at H; exact H
                              clear H
                              have H := H1
                              clear H1
                              have HC40 := Aside0.mk H
                              clear H
                              have p33 : 0 ≤ (x4_4 : Int) := of_decide_eq_true (by first | (with_reducible assumption) | assumption)
                              have q33 : x4_4 < (a0.size : Int) := of_decide_eq_true (by first | (with_reducible assumption) | assumption)
                              have hx33 := bt_at a0 x4_4
                              replace p33 := eq_true p33
                              replace q33 := eq_true q33
                              go_upto_region 19 with (first | ((with_reducible refine gate_callee (f := 25) rfl ?_); refine goesL_ (some 70) rfl rfl Tryd.func25 (by kernel_rfl) rfl #[.int .u8 (bt a0 x4_4)] rfl (by (try simp only [List.map_toArray, List.map_cons, List.map_nil]); first | done | rfl | (simp only [List.length_drop, List.length_take]; rfl)) ?_; (with_reducible refine (hauberkref05_digit.calls (bt a0 x4_4) false _ ?side1 A34.out).mono ?_); (case side1 => (first | ((repeat (first | (with_reducible exact hL) | apply Laid.drewN | apply Laid.drew | apply Laid.alloc)); done) | exact Laid.below hL (by repeat (first | (with_reducible first | exact HB.out | apply below_alloc | apply pw_below_drewN | apply below_drew1) | exact HB.out)))); rintro e w' ⟨rfl, ⟨nd, rfl⟩⟩; refine ⟨_, rfl, ?_⟩))
                              (try simp only [Act.put, List.setIfInBounds_toArray, List.set_cons_zero, List.set_cons_succ])
                              go_cut [85] (fun v85 wc => ∃ (kq : Nat) (x85_39 : Bool), v85 = .bool x85_39 ∧ Aside0 (hauberkref05_Mean.j4 kq a0 x4_4 x5_27 x6_4 99 x85_39 = some (r1, r2)) ∧ Aside0 (kq ≤ k4) ∧ Drawn0 w wc)
                              case first =>
                                have H := HC40.out
                                clear HC40
                                by_cases c42 : (bt a0 x4_4) ≥ 97
                                · rw [if_pos c42] at H
                                  have c42b0 : decide (97 ≤ (bt a0 x4_4)) = true := decide_eq_true c42
                                  clear c42
                                  (first | rw [c42b0] | (simp only [i64_w, i32_w]; rw [c42b0]) | skip)
                                  have H' := Aside0.mk H
                                  clear H
                                  have p41 : 0 ≤ (x4_4 : Int) := of_decide_eq_true (by first | (with_reducible assumption) | assumption)
                                  have q41 : x4_4 < (a0.size : Int) := of_decide_eq_true (by first | (with_reducible assumption) | assumption)
                                  have hx41 := bt_at a0 x4_4
                                  replace p41 := eq_true p41
                                  replace q41 := eq_true q41
                                  have p43 : 0 ≤ (x4_4 : Int) := of_decide_eq_true (by first | (with_reducible assumption) | assumption)
                                  have q43 : x4_4 < (a0.size : Int) := of_decide_eq_true (by first | (with_reducible assumption) | assumption)
                                  have hx43 := bt_at a0 x4_4
                                  replace p43 := eq_true p43
                                  replace q43 := eq_true q43
                                  go_wp2
                                  go_meet
                                  case rel => exact ⟨_, (decide ((bt a0 x4_4) ≤ 102)), (by first | rfl | (simp; done) | (simp [*]; done)), H', ⟨by have := HJ1.out; have := HJ19.out; have := HJ27.out; have := HK4.out; first | omega | exact Nat.le_refl _⟩, by repeat (first | exact Drawn0.refl _ | apply Drawn0.step)⟩
                                · rw [if_neg c42] at H
                                  have c42b0 : decide (97 ≤ (bt a0 x4_4)) = false := decide_eq_false c42
                                  clear c42
                                  (first | rw [c42b0] | (simp only [i64_w, i32_w]; rw [c42b0]) | skip)
                                  have H' := Aside0.mk H
                                  clear H
                                  have p41 : 0 ≤ (x4_4 : Int) := of_decide_eq_true (by first | (with_reducible assumption) | assumption)
                                  have q41 : x4_4 < (a0.size : Int) := of_decide_eq_true (by first | (with_reducible assumption) | assumption)
                                  have hx41 := bt_at a0 x4_4
                                  replace p41 := eq_true p41
                                  replace q41 := eq_true q41
                                  go_wp2
                                  go_meet
                                  case rel => exact ⟨_, (false), (by first | rfl | (simp; done) | (simp [*]; done)), H', ⟨by have := HJ1.out; have := HJ19.out; have := HJ27.out; have := HK4.out; first | omega | exact Nat.le_refl _⟩, by repeat (first | exact Drawn0.refl _ | apply Drawn0.step)⟩
                              case rest =>
                                clear HC40
                                try clear c1
                                try clear p1
                                try clear q1
                                try clear hx1
                                try clear qi1
                                try clear c2
                                try clear p2
                                try clear q2
                                try clear hx2
                                try clear qi2
                                try clear c3
                                try clear c3b0
                                try clear c3b1
                                try clear p3
                                try clear q3
                                try clear hx3
                                try clear c4
                                try clear c4b0
                                try clear c4b1
                                try clear p4
                                try clear q4
                                try clear hx4
                                try clear p5
                                try clear q5
                                try clear hx5
                                try clear qi5
                                try clear c6
                                try clear p6
                                try clear c7
                                try clear c7b0
                                try clear c7b1
                                try clear p8
                                try clear q8
                                try clear hx8
                                try clear qi8
                                try clear c9
                                try clear c9b0
                                try clear c9b1
                                try clear c10
                                try clear c10b0
                                try clear c10b1
                                try clear p11
                                try clear q11
                                try clear hx11
                                try clear qi11
                                try clear c12
                                try clear c12b0
                                try clear p13
                                try clear q13
                                try clear hx13
                                try clear qi13
                                try clear c14
                                try clear c14b0
                                try clear c15
                                try clear p15
                                try clear q15
                                try clear hx15
                                try clear qi15
                                try clear c16
                                try clear c16b0
                                try clear c16b1
                                try clear p17
                                try clear q17
                                try clear hx17
                                try clear qi17
                                try clear c18
                                try clear c18b0
                                try clear c18b1
                                try clear c19
                                try clear p19
                                try clear q19
                                try clear hx19
                                try clear qi19
                                try clear c21
                                try clear c21b0
                                try clear c21b1
                                try clear c22
                                try clear c22b0
                                try clear c22b1
                                try clear c23
                                try clear c23b0
                                try clear c23b1
                                try clear p24
                                try clear q24
                                try clear hx24
                                try clear qi24
                                try clear c25
                                try clear c26
                                try clear c27
                                try clear c29
                                try clear c30
                                try clear c30b0
                                try clear c30b1
                                try clear c31
                                try clear c31b0
                                try clear c32
                                try clear c32b0
                                try clear p33
                                try clear q33
                                try clear hx33
                                try clear c35
                                try clear p36
                                try clear q36
                                try clear hx36
                                try clear c37
                                try clear c37b0
                                try clear c38
                                try clear c38b0
                                try clear c38b1
                                try clear c39
                                try clear c39b0
                                try clear p41
                                try clear q41
                                try clear hx41
                                try clear c42
                                try clear c42b0
                                try clear p43
                                try clear q43
                                try clear hx43
                                try clear p1
                                try clear p11
                                try clear p13
                                try clear p15
                                try clear p17
                                try clear p19
                                try clear p2
                                try clear p24
                                try clear p33
                                try clear p36
                                try clear p41
                                try clear p43
                                try clear p5
                                try clear p8
                                try clear q1
                                try clear q11
                                try clear q13
                                try clear q15
                                try clear q17
                                try clear q19
                                try clear q2
                                try clear q24
                                try clear q33
                                try clear q36
                                try clear q41
                                try clear q43
                                try clear q5
                                try clear q8
                                obtain ⟨kq, x85_39, rfl, HA, HJ39, ⟨mc39, rfl⟩⟩ := hcut
                                cases kq with
                                | zero => exact absurd HA.out (by simp [hauberkref05_Mean.j4])
                                | succ kj39 =>
                                  have H := HA.out
                                  clear HA
                                  simp only [hauberkref05_Mean.j4] at H
                                  by_cases c44 : x85_39 = true
                                  · subst c44
                                    have H1 : (if 0 ≤ x4_4 then (if x4_4 < (a0.size : Int) then (if ((((bt a0 x4_4) - 97) % 256) + 10) ≥ x5_27 then (some (0, false)) else (if x5_27 = 0 then (none) else (if x6_4 > (IntKind.u64.wrap (Int.tdiv (9223372036854775807 - ((((bt a0 x4_4) - 97) % 256) + 10)) x5_27)) then (some (0, false)) else (hauberkref05_Mean.l0 kj39 a0 (wrap64 (x4_4 + 1)) x5_27 (IntKind.u64.wrap ((IntKind.u64.wrap (x6_4 * x5_27)) + ((((bt a0 x4_4) - 97) % 256) + 10))))))) else (none)) else (none)) = some (r1, r2) := by rw [if_pos rfl] at H; exact H
                                    clear H
                                    have H := H1
                                    clear H1
                                    by_cases c45 : 0 ≤ x4_4
                                    · rw [if_pos c45] at H
                                      have c45b0 : decide (0 ≤ x4_4) = true := decide_eq_true c45
                                      clear c45
                                      by_cases c46 : x4_4 < (a0.size : Int)
                                      · rw [if_pos c46] at H
                                        have c46b0 : decide (x4_4 < (a0.size : Int)) = true := decide_eq_true c46
                                        clear c46
                                        by_cases c48 : ((((bt a0 x4_4) - 97) % 256) + 10) ≥ x5_27
                                        · rw [if_pos c48] at H
                                          have c48b0 : decide (x5_27 ≤ ((((bt a0 x4_4) - 97) % 256) + 10)) = true := decide_eq_true c48
                                          clear c48
                                          simp only [Option.some.injEq, Prod.mk.injEq] at H
                                          obtain ⟨rfl, rfl⟩ := H
                                          have p47 : 0 ≤ (x4_4 : Int) := of_decide_eq_true (by first | (with_reducible assumption) | assumption)
                                          have q47 : x4_4 < (a0.size : Int) := of_decide_eq_true (by first | (with_reducible assumption) | assumption)
                                          have hx47 := bt_at a0 x4_4
                                          replace p47 := eq_true p47
                                          replace q47 := eq_true q47
                                          go_wp2
                                          go_ret2
                                          exact ⟨by first | rfl | (simp; done) | (simp [*]; done), by repeat (first | exact Drawn0.refl _ | apply Drawn0.step)⟩
                                        · rw [if_neg c48] at H
                                          have c48b0 : decide (x5_27 ≤ ((((bt a0 x4_4) - 97) % 256) + 10)) = false := decide_eq_false c48
                                          clear c48
                                          by_cases c49 : x5_27 = 0
                                          · rw [if_pos c49] at H
                                            exact absurd H (by simp)
                                          · rw [if_neg c49] at H
                                            have c49b0 : (x5_27 == 0) = false := beq_eq_false_iff_ne.mpr c49
                                            have c49b1 : (x5_27 != 0) = true := bne_iff_ne.mpr c49
                                            by_cases c50 : x6_4 > (IntKind.u64.wrap (Int.tdiv (9223372036854775807 - ((((bt a0 x4_4) - 97) % 256) + 10)) x5_27))
                                            · rw [if_pos c50] at H
                                              have c50b0 : decide ((IntKind.u64.wrap (Int.tdiv (9223372036854775807 - ((((bt a0 x4_4) - 97) % 256) + 10)) x5_27)) < x6_4) = true := decide_eq_true c50
                                              clear c50
                                              simp only [Option.some.injEq, Prod.mk.injEq] at H
                                              obtain ⟨rfl, rfl⟩ := H
                                              have p47 : 0 ≤ (x4_4 : Int) := of_decide_eq_true (by first | (with_reducible assumption) | assumption)
                                              have q47 : x4_4 < (a0.size : Int) := of_decide_eq_true (by first | (with_reducible assumption) | assumption)
                                              have hx47 := bt_at a0 x4_4
                                              replace p47 := eq_true p47
                                              replace q47 := eq_true q47
                                              go_wp2
                                              go_ret2
                                              exact ⟨by first | rfl | (simp; done) | (simp [*]; done), by repeat (first | exact Drawn0.refl _ | apply Drawn0.step)⟩
                                            · rw [if_neg c50] at H
                                              have c50b0 : decide ((IntKind.u64.wrap (Int.tdiv (9223372036854775807 - ((((bt a0 x4_4) - 97) % 256) + 10)) x5_27)) < x6_4) = false := decide_eq_false c50
                                              clear c50
                                              have H' := Aside0.mk H
                                              clear H
                                              have p47 : 0 ≤ (x4_4 : Int) := of_decide_eq_true (by first | (with_reducible assumption) | assumption)
                                              have q47 : x4_4 < (a0.size : Int) := of_decide_eq_true (by first | (with_reducible assumption) | assumption)
                                              have hx47 := bt_at a0 x4_4
                                              replace p47 := eq_true p47
                                              replace q47 := eq_true q47
                                              go_wp2
                                              go_roundg kj39
                                              case measure => have := HJ1.out; have := HJ19.out; have := HJ27.out; have := HK4.out; have := HJ39.out; omega
                                              case rel => exact ⟨(wrap64 (x4_4 + 1)), (IntKind.u64.wrap ((IntKind.u64.wrap (x6_4 * x5_27)) + ((((bt a0 x4_4) - 97) % 256) + 10))), (by first | rfl | (simp; done) | (simp [*]; done)), (by first | rfl | (simp; done) | (simp [*]; done)), H', ⟨by have := HJ1.out; have := HJ19.out; have := HJ27.out; have := HK4.out; have := HJ39.out; omega⟩, by repeat (first | exact Drawn0.refl _ | apply Drawn0.step)⟩
                                      · rw [if_neg c46] at H
                                        exact absurd H (by simp)
                                    · rw [if_neg c45] at H
                                      exact absurd H (by simp)
                                  · replace c44 := Bool.eq_false_iff.mpr c44
                                    subst c44
                                    have H1 : (if 99 ≥ x5_27 then (some (0, false)) else (if x5_27 = 0 then (none) else (if x6_4 > (IntKind.u64.wrap (Int.tdiv 9223372036854775708 x5_27)) then (some (0, false)) else (hauberkref05_Mean.l0 kj39 a0 (wrap64 (x4_4 + 1)) x5_27 (IntKind.u64.wrap ((IntKind.u64.wrap (x6_4 * x5_27)) + 99)))))) = some (r1, r2) := by rw [if_neg (show ¬ (false = true) by decide)] at H; exact H
                                    clear H
                                    have H := H1
                                    clear H1
                                    by_cases c51 : 99 ≥ x5_27
                                    · rw [if_pos c51] at H
                                      have c51b0 : decide (x5_27 ≤ 99) = true := decide_eq_true c51
                                      clear c51
                                      simp only [Option.some.injEq, Prod.mk.injEq] at H
                                      obtain ⟨rfl, rfl⟩ := H
                                      go_wp2
                                      go_ret2
                                      exact ⟨by first | rfl | (simp; done) | (simp [*]; done), by repeat (first | exact Drawn0.refl _ | apply Drawn0.step)⟩
                                    · rw [if_neg c51] at H
                                      have c51b0 : decide (x5_27 ≤ 99) = false := decide_eq_false c51
                                      clear c51
                                      by_cases c52 : x5_27 = 0
                                      · rw [if_pos c52] at H
                                        exact absurd H (by simp)
                                      · rw [if_neg c52] at H
                                        have c52b0 : (x5_27 == 0) = false := beq_eq_false_iff_ne.mpr c52
                                        have c52b1 : (x5_27 != 0) = true := bne_iff_ne.mpr c52
                                        by_cases c53 : x6_4 > (IntKind.u64.wrap (Int.tdiv 9223372036854775708 x5_27))
                                        · rw [if_pos c53] at H
                                          have c53b0 : decide ((IntKind.u64.wrap (Int.tdiv 9223372036854775708 x5_27)) < x6_4) = true := decide_eq_true c53
                                          clear c53
                                          simp only [Option.some.injEq, Prod.mk.injEq] at H
                                          obtain ⟨rfl, rfl⟩ := H
                                          go_wp2
                                          go_ret2
                                          exact ⟨by first | rfl | (simp; done) | (simp [*]; done), by repeat (first | exact Drawn0.refl _ | apply Drawn0.step)⟩
                                        · rw [if_neg c53] at H
                                          have c53b0 : decide ((IntKind.u64.wrap (Int.tdiv 9223372036854775708 x5_27)) < x6_4) = false := decide_eq_false c53
                                          clear c53
                                          have H' := Aside0.mk H
                                          clear H
                                          go_wp2
                                          go_roundg kj39
                                          case measure => have := HJ1.out; have := HJ19.out; have := HJ27.out; have := HK4.out; have := HJ39.out; omega
                                          case rel => exact ⟨(wrap64 (x4_4 + 1)), (IntKind.u64.wrap ((IntKind.u64.wrap (x6_4 * x5_27)) + 99)), (by first | rfl | (simp; done) | (simp [*]; done)), (by first | rfl | (simp; done) | (simp [*]; done)), H', ⟨by have := HJ1.out; have := HJ19.out; have := HJ27.out; have := HK4.out; have := HJ39.out; omega⟩, by repeat (first | exact Drawn0.refl _ | apply Drawn0.step)⟩
                          · rw [if_neg c32] at H
                            exact absurd H (by simp)
                        · rw [if_neg c31] at H
                          have c31b0 : decide (x4_4 < (a0.size : Int)) = false := decide_eq_false c31
                          clear c31
                          simp only [Option.some.injEq, Prod.mk.injEq] at H
                          obtain ⟨rfl, rfl⟩ := H
                          go_wp2
                          go_ret2
                          exact ⟨by first | rfl | (simp; done) | (simp [*]; done), by repeat (first | exact Drawn0.refl _ | apply Drawn0.step)⟩

end Go.Proofs.YtjegaejdphmdgaaDoor.Print
