-- printed by myprint.py, a session's own driver around the kit's printing program
import Derived.Test.YtjegaejdphmdgaaDoorPrB0
import Derived.Test.YtjegaejdphmdgaaDoorPrB2
namespace Go.Proofs.YtjegaejdphmdgaaDoor.Print
open Go.RowKit Go.Proofs.YtjegaejdphmdgaaDoorW.PrintWords Go.Proofs.YtjegaejdphmdgaaDoorW.PrintLast Go.Proofs.YtjegaejdphmdgaaDoorW.PrintMore
attribute [local go_sem] max2_int min2_int max_two min_two max_three min_three max_four min_four   -- for this text's walks alone
set_option linter.unusedVariables false
set_option linter.unusedSimpArgs false

/-! ### hauberklaw05_LexLimits: function 8 -/
def hauberklaw05_LexLimits.l0 : Nat → Int → Int → List Int → Int → Int → Option (Bool)
  | 0, _, _, _, _, _ => none
  | k + 1, x0, x1, x5, x25, x26 => if x26 < x25 then (if 0 ≤ x26 then (if x26 < (x5.length : Int) then ((some (x5.set (x26 : Int).toNat 32 : List Int)).bind fun y196 => (if x26 < x0 then (hauberklaw05_LexLimits.l0 k x0 x1 (y196.set (x26 : Int).toNat 126) x25 (wrap64 (x26 + 1))) else (hauberklaw05_LexLimits.l0 k x0 x1 y196 x25 (wrap64 (x26 + 1))))) else (none)) else (none)) else ((lex_Lex.f k (strOfNums x5)).bind fun bt198 => (if (wrap64 (x0 + x1)) > 8192 then (if bt198.2.2 = 3 then (some (bt198.2.1 == 8192)) else (some false)) else (if x0 > 2500 then (if bt198.2.2 = 3 then (some (bt198.2.1 == 2500)) else (some false)) else (if bt198.2.2 = 0 then (some ((bt198.1.length : Int) == (wrap64 (x0 + 1)))) else (some false)))))
def hauberklaw05_LexLimits.f (k : Nat) (a0 : Int) (a1 : Int) : Option (Bool) := (hauberklaw05_awake.f k).bind fun t192 => (if t192 = true then (if 0 ≤ (wrap64 ((wrap64 (Int.tmod (IntKind.u64.wrap (a0)) 2510)) + (wrap64 (Int.tmod (IntKind.u64.wrap (a1)) 8200)))) then (if (wrap64 ((wrap64 (Int.tmod (IntKind.u64.wrap (a0)) 2510)) + (wrap64 (Int.tmod (IntKind.u64.wrap (a1)) 8200))) : Int).toNat ≤ 281474976710656 then ((some (List.replicate (wrap64 ((wrap64 (Int.tmod (IntKind.u64.wrap (a0)) 2510)) + (wrap64 (Int.tmod (IntKind.u64.wrap (a1)) 8200))) : Int).toNat 0 : List Int)).bind fun y193 => (hauberklaw05_LexLimits.l0 k (wrap64 (Int.tmod (IntKind.u64.wrap (a0)) 2510)) (wrap64 (Int.tmod (IntKind.u64.wrap (a1)) 8200)) y193 (y193.length : Int) 0)) else (none)) else (none)) else (some false))
theorem hauberklaw05_LexLimits.mono_l : ∀ k, (∀ y0 y1 y2 y3 y4, LeO (hauberklaw05_LexLimits.l0 k y0 y1 y2 y3 y4) (hauberklaw05_LexLimits.l0 (k + 1) y0 y1 y2 y3 y4))
  | 0 => fun _ _ _ _ _ r h => by simp [hauberklaw05_LexLimits.l0] at h
  | k + 1 => by
    have ih0 := hauberklaw05_LexLimits.mono_l k
    · intro y0 y1 y2 y3 y4
      unfold hauberklaw05_LexLimits.l0
      repeat' first
      | (with_reducible exact ih0 _ _ _ _ _)
      | (with_reducible exact hauberklaw05_awake.mono _)
      | (with_reducible exact lex_Lex.mono _ _)
      | (with_reducible exact LeO.refl _)
      | (with_reducible exact LeO.none _)
      | (with_reducible refine LeO.ite ?_ ?_)
      | (with_reducible refine LeO.bind ?_ (fun _ => ?_))
      | exact ih0 _ _ _ _ _
      | exact hauberklaw05_awake.mono _
      | exact lex_Lex.mono _ _
      | exact LeO.none _
      | refine LeO.ite ?_ ?_
      | refine LeO.bind ?_ (fun _ => ?_)
theorem hauberklaw05_LexLimits.mono : ∀ a0 a1 k, LeO (hauberklaw05_LexLimits.f k a0 a1) (hauberklaw05_LexLimits.f (k + 1) a0 a1) := by
  intro a0 a1 k
  have ih0 := hauberklaw05_LexLimits.mono_l k
  unfold hauberklaw05_LexLimits.f
  repeat' first
      | (with_reducible exact ih0 _ _ _ _ _)
      | (with_reducible exact hauberklaw05_awake.mono _)
      | (with_reducible exact lex_Lex.mono _ _)
      | (with_reducible exact LeO.refl _)
      | (with_reducible exact LeO.none _)
      | (with_reducible refine LeO.ite ?_ ?_)
      | (with_reducible refine LeO.bind ?_ (fun _ => ?_))
      | exact ih0 _ _ _ _ _
      | exact hauberklaw05_awake.mono _
      | exact lex_Lex.mono _ _
      | exact LeO.none _
      | refine LeO.ite ?_ ?_
      | refine LeO.bind ?_ (fun _ => ?_)
set_option maxHeartbeats 8000000 in
set_option maxRecDepth 100000 in
theorem hauberklaw05_LexLimits.calls (k : Nat) (a0 : Int) (a1 : Int) (r : Bool) (w : World) (hL : Laid w) (h : hauberklaw05_LexLimits.f k a0 a1 = some r) :
    Calls Tryd.prog 8 #[.int .i64 a0, .int .i64 a1] w fun e w' => e = .returned (.bool r) ∧ Below w.heap.size w w' := by
  have HB := Aside0.mk (Below.refl w.heap.size w)
  have H : ((hauberklaw05_awake.f k).bind fun t192 => (if t192 = true then (if 0 ≤ (wrap64 ((wrap64 (Int.tmod (IntKind.u64.wrap (a0)) 2510)) + (wrap64 (Int.tmod (IntKind.u64.wrap (a1)) 8200)))) then (if (wrap64 ((wrap64 (Int.tmod (IntKind.u64.wrap (a0)) 2510)) + (wrap64 (Int.tmod (IntKind.u64.wrap (a1)) 8200))) : Int).toNat ≤ 281474976710656 then ((some (List.replicate (wrap64 ((wrap64 (Int.tmod (IntKind.u64.wrap (a0)) 2510)) + (wrap64 (Int.tmod (IntKind.u64.wrap (a1)) 8200))) : Int).toNat 0 : List Int)).bind fun y193 => (hauberklaw05_LexLimits.l0 k (wrap64 (Int.tmod (IntKind.u64.wrap (a0)) 2510)) (wrap64 (Int.tmod (IntKind.u64.wrap (a1)) 8200)) y193 (y193.length : Int) 0)) else (none)) else (none)) else (some false))) = some r := h
  clear h
  replace H := Option.bind_eq_some_iff.mp H
  obtain ⟨t192, A30, H⟩ := H
  replace H : (if t192 = true then (if 0 ≤ (wrap64 ((wrap64 (Int.tmod (IntKind.u64.wrap (a0)) 2510)) + (wrap64 (Int.tmod (IntKind.u64.wrap (a1)) 8200)))) then (if (wrap64 ((wrap64 (Int.tmod (IntKind.u64.wrap (a0)) 2510)) + (wrap64 (Int.tmod (IntKind.u64.wrap (a1)) 8200))) : Int).toNat ≤ 281474976710656 then ((some (List.replicate (wrap64 ((wrap64 (Int.tmod (IntKind.u64.wrap (a0)) 2510)) + (wrap64 (Int.tmod (IntKind.u64.wrap (a1)) 8200))) : Int).toNat 0 : List Int)).bind fun y193 => (hauberklaw05_LexLimits.l0 k (wrap64 (Int.tmod (IntKind.u64.wrap (a0)) 2510)) (wrap64 (Int.tmod (IntKind.u64.wrap (a1)) 8200)) y193 (y193.length : Int) 0)) else (none)) else (none)) else (some false)) = some r := H
  have A3 := Aside0.mk A30
  clear A30
  by_cases c4 : t192 = true
  · subst c4
    have H1 : (if 0 ≤ (wrap64 ((wrap64 (Int.tmod (IntKind.u64.wrap (a0)) 2510)) + (wrap64 (Int.tmod (IntKind.u64.wrap (a1)) 8200)))) then (if (wrap64 ((wrap64 (Int.tmod (IntKind.u64.wrap (a0)) 2510)) + (wrap64 (Int.tmod (IntKind.u64.wrap (a1)) 8200))) : Int).toNat ≤ 281474976710656 then ((some (List.replicate (wrap64 ((wrap64 (Int.tmod (IntKind.u64.wrap (a0)) 2510)) + (wrap64 (Int.tmod (IntKind.u64.wrap (a1)) 8200))) : Int).toNat 0 : List Int)).bind fun y193 => (hauberklaw05_LexLimits.l0 k (wrap64 (Int.tmod (IntKind.u64.wrap (a0)) 2510)) (wrap64 (Int.tmod (IntKind.u64.wrap (a1)) 8200)) y193 (y193.length : Int) 0)) else (none)) else (none)) = some r := by rw [if_pos rfl] at H; exact H
    clear H
    have H := H1
    clear H1
    obtain ⟨ji5, hji5⟩ : ∃ j_ : Int, (wrap64 ((wrap64 (Int.tmod (IntKind.u64.wrap (a0)) 2510)) + (wrap64 (Int.tmod (IntKind.u64.wrap (a1)) 8200)))) = j_ := ⟨_, rfl⟩
    replace H : (if 0 ≤ (ji5) then (if (ji5 : Int).toNat ≤ 281474976710656 then ((some (List.replicate (ji5 : Int).toNat 0 : List Int)).bind fun y193 => (hauberklaw05_LexLimits.l0 k (wrap64 (Int.tmod (IntKind.u64.wrap (a0)) 2510)) (wrap64 (Int.tmod (IntKind.u64.wrap (a1)) 8200)) y193 (y193.length : Int) 0)) else (none)) else (none)) = some r := by first | (rw [hji5] at H; exact H) | (simp only [hji5] at H ⊢; exact H)
    (try rw [hji5] at A3)
    have hji5w : (IntKind.i64.wrap ((wrap64 (Int.tmod (IntKind.u64.wrap (a0)) 2510)) + (wrap64 (Int.tmod (IntKind.u64.wrap (a1)) 8200)))) = ji5 := (i64_w _).trans hji5
    by_cases c6 : 0 ≤ (ji5)
    · rw [if_pos c6] at H
      have c6b0 := eq_true c6
      have c6b1 : decide (0 ≤ (ji5)) = true := decide_eq_true c6
      clear c6
      by_cases c7 : (ji5 : Int).toNat ≤ 281474976710656
      · rw [if_pos c7] at H
        have c7b0 := eq_true c7
        have c7b1 : decide ((ji5 : Int).toNat ≤ 281474976710656) = true := decide_eq_true c7
        clear c7
        obtain ⟨y193, hy193⟩ : ∃ y_ : List Int, y_ = (List.replicate (ji5 : Int).toNat 0) := ⟨_, rfl⟩
        replace H : (hauberklaw05_LexLimits.l0 k (wrap64 (Int.tmod (IntKind.u64.wrap (a0)) 2510)) (wrap64 (Int.tmod (IntKind.u64.wrap (a1)) 8200)) y193 (y193.length : Int) 0) = some r := by first | (rw [hy193]; with_reducible exact H) | (have H2_ := (Option.bind_some _ _).symm.trans H; rw [hy193]; with_reducible exact H2_) | (have H2_ := (Option.bind_some _ _).symm.trans H; with_reducible exact H2_) | with_reducible exact H | (rw [hy193]; exact H) | exact H
        have Ny193 := Aside0.mk hy193
        clear hy193
        have H' := Aside0.mk H
        clear H
        go_enter Tryd.func8, Tryd.ntmps8
        go_wp2_with (first | ((with_reducible refine gate_callee (f := 10) rfl ?_); refine goesL_ (some 10) rfl rfl Tryd.func10 (by kernel_rfl) rfl #[] rfl (by (try simp only [List.map_toArray, List.map_cons, List.map_nil]); first | done | rfl | (simp only [List.length_drop, List.length_take]; rfl)) ?_; (with_reducible refine (hauberklaw05_awake.calls k  true _ ?side1 A3.out).mono ?_); (case side1 => (first | ((repeat (first | (with_reducible exact hL) | apply Laid.drewN | apply Laid.drew | apply Laid.alloc)); done) | exact Laid.below hL (by repeat (first | (with_reducible first | exact HB.out | apply below_alloc | apply pw_below_drewN | apply below_drew1) | exact HB.out)))); rintro e w8 ⟨rfl, hb⟩; refine ⟨_, rfl, ?_⟩; have n0_ := Aside0.mk (below_step (by repeat (first | (with_reducible first | exact HB.out | apply below_alloc | apply pw_below_drewN | apply below_drew1) | exact HB.out)) hb); clear HB; have HB := n0_; clear n0_; (try clear hb); (try clear hb2); (try clear hk); (try clear hi)) | ((with_reducible refine gate_dst (N := 23) rfl ?_); (try (refine gate_guard (by rfl) ?_; dsimp only)); refine Kd.R_make (Kd.int .u8) _ 5 rfl (N := 23) rfl 38 _ _ rfl ji5 rfl rfl Tryd.underlying38 (.int .u8 0) 1 info5 rfl (by decide) (by omega) 0 (ok := fun _ => True) (okp := fun _ => True) rfl (fun _ hk => hk) trivial (of_decide_eq_true (by first | (with_reducible assumption) | assumption)) (Nat.le_trans (Nat.mul_le_mul_right _ (of_decide_eq_true (by first | (with_reducible assumption) | assumption) : ji5.toNat ≤ 281474976710656)) (by omega)) (Below.refl _ _) (Nat.le_refl _) ?_; intro v194 w9 ho10 hb hg_ hnew_; clear hg_ hnew_; (first | rw [← Ny193.out] at ho10 | (simp only [Int.reduceToNat] at ho10; rw [← Ny193.out] at ho10)); have n0_ := Aside0.mk (Kd.R_lower ho10 (below_size (by repeat (first | (with_reducible first | exact HB.out | apply below_alloc | apply pw_below_drewN | apply below_drew1) | exact HB.out)))); have n1_ := Aside0.mk (below_step (by repeat (first | (with_reducible first | exact HB.out | apply below_alloc | apply pw_below_drewN | apply below_drew1) | exact HB.out)) hb); clear HB; have HO195 := n0_; have HB := n1_; clear n0_ n1_; clear hb ho10; obtain ⟨Ao11, co11, eo11⟩ := Kd.R_slice HO195.out; subst eo11))
        go_loopg [26] k (fun kq v26 w' => ∃ (x5_1 : List Int) (x26_1 : Int), v26 = .int .i64 x26_1 ∧ Aside0 (hauberklaw05_LexLimits.l0 kq (wrap64 (Int.tmod (IntKind.u64.wrap (a0)) 2510)) (wrap64 (Int.tmod (IntKind.u64.wrap (a1)) 8200)) x5_1 (y193.length : Int) x26_1 = some r) ∧ Aside0 (kq ≤ k) ∧ Aside0 (Kd.R (Kd.int .u8) 5 w' w.heap.size (fun _ => True) (.slice Ao11 y193.length co11) x5_1) ∧ Aside0 (Below w.heap.size w w'))
        case atStart => exact ⟨(y193), (0), (by first | rfl | (simp; done) | (simp [*]; done)), H', ⟨Nat.le_refl _⟩, ⟨by (with_reducible repeat (first | apply Kd.R_alloc | apply Kd.R_drewN | apply Kd.R_drew)); exact HO195.out⟩, ⟨by repeat (first | (with_reducible first | exact HB.out | apply below_alloc | apply pw_below_drewN | apply below_drew1) | exact HB.out)⟩⟩
        case round =>
          clear H'
          try clear c1
          try clear p2
          try clear c4
          try clear c6
          try clear c6b0
          try clear c6b1
          try clear p6
          try clear c7
          try clear c7b0
          try clear c7b1
          try clear c8
          try clear c10
          obtain ⟨x5_1, x26_1, rfl, HA, HK1, HO_5, HB⟩ := hrel
          have hl5_1 := (Kd.R_reads' HO_5.out).1
          rw [hl5_1] at HO_5
          (try simp only [hl5_1])
          cases gk with
          | zero => exact absurd HA.out (by simp [hauberklaw05_LexLimits.l0])
          | succ k1 =>
            have H := HA.out
            clear HA
            simp only [hauberklaw05_LexLimits.l0] at H
            by_cases c12 : x26_1 < (y193.length : Int)
            · rw [if_pos c12] at H
              have c12b0 : decide (x26_1 < (y193.length : Int)) = true := decide_eq_true c12
              clear c12
              by_cases c13 : 0 ≤ x26_1
              · rw [if_pos c13] at H
                have c13b0 : decide (0 ≤ x26_1) = true := decide_eq_true c13
                clear c13
                by_cases c14 : x26_1 < (x5_1.length : Int)
                · rw [if_pos c14] at H
                  have c14b0 : decide (x26_1 < (x5_1.length : Int)) = true := decide_eq_true c14
                  clear c14
                  obtain ⟨y196, hy196⟩ : ∃ y_ : List Int, y_ = (x5_1.set (x26_1 : Int).toNat 32) := ⟨_, rfl⟩
                  replace H : (if x26_1 < (wrap64 (Int.tmod (IntKind.u64.wrap (a0)) 2510)) then (hauberklaw05_LexLimits.l0 k1 (wrap64 (Int.tmod (IntKind.u64.wrap (a0)) 2510)) (wrap64 (Int.tmod (IntKind.u64.wrap (a1)) 8200)) (y196.set (x26_1 : Int).toNat 126) (y193.length : Int) (wrap64 (x26_1 + 1))) else (hauberklaw05_LexLimits.l0 k1 (wrap64 (Int.tmod (IntKind.u64.wrap (a0)) 2510)) (wrap64 (Int.tmod (IntKind.u64.wrap (a1)) 8200)) y196 (y193.length : Int) (wrap64 (x26_1 + 1)))) = some r := by first | (rw [hy196]; with_reducible exact H) | (have H2_ := (Option.bind_some _ _).symm.trans H; rw [hy196]; with_reducible exact H2_) | (have H2_ := (Option.bind_some _ _).symm.trans H; with_reducible exact H2_) | with_reducible exact H | (rw [hy196]; exact H) | exact H
                  have Ny196 := Aside0.mk hy196
                  clear hy196
                  by_cases c16 : x26_1 < (wrap64 (Int.tmod (IntKind.u64.wrap (a0)) 2510))
                  · rw [if_pos c16] at H
                    have c16b0 : decide (x26_1 < (wrap64 (Int.tmod (IntKind.u64.wrap (a0)) 2510))) = true := decide_eq_true c16
                    clear c16
                    obtain ⟨y197, hy197⟩ : ∃ y_ : List Int, y_ = (y196.set (x26_1 : Int).toNat 126) := ⟨_, rfl⟩
                    replace H : (hauberklaw05_LexLimits.l0 k1 (wrap64 (Int.tmod (IntKind.u64.wrap (a0)) 2510)) (wrap64 (Int.tmod (IntKind.u64.wrap (a1)) 8200)) y197 (y193.length : Int) (wrap64 (x26_1 + 1))) = some r := by first | (rw [hy197]; with_reducible exact H) | (have H2_ := (Option.bind_some _ _).symm.trans H; rw [hy197]; with_reducible exact H2_) | (have H2_ := (Option.bind_some _ _).symm.trans H; with_reducible exact H2_) | with_reducible exact H | (rw [hy197]; exact H) | exact H
                    have Ny197 := Aside0.mk hy197
                    clear hy197
                    have H' := Aside0.mk H
                    clear H
                    have p15 : 0 ≤ (x26_1 : Int) := of_decide_eq_true (by first | (with_reducible assumption) | assumption)
                    have q15 : (x26_1 : Int) < ((x5_1.length : Int) : Int) := of_decide_eq_true (by first | (with_reducible assumption) | assumption)
                    obtain ⟨go15, co15, eo15, gb15, gl15, cl15, HG15⟩ := Kd.R_form HO_5.out (by omega)
                    (first | cases eo15 | (injection eo15 with ea_ en_ ec_; (first | subst ea_ | (injection ea_ with ea_; subst ea_)); subst ec_; clear en_))
                    have GB15 := Aside0.mk gb15
                    have GG15 := Aside0.mk HG15
                    clear gb15 gl15 HG15
                    obtain ⟨hx15_0, hf15_0⟩ := Kd.R_celln 0 HO_5.out (x26_1 : Int) p15 q15
                    replace p15 := eq_true p15
                    replace q15 := eq_true q15
                    have HP18 := Kd.R_putg HO_5.out (x26_1 : Int) 32
                    go_wp2_with (first | ((with_reducible refine gate_store (t := 5) (p := 31) rfl ?_); refine store_event (t := 5) (p := 31) (v := ?vo_w19) (w1 := (wr.setCell ⟨go15, (x26_1 : Int).toNat, none⟩ (.int .u8 32))) ?hg ?ho ?hn ?hr ?_; (case ho => rfl); (case hg => rfl); (case hn => rfl); (case hr => first | (go_simp; done) | (go_simp; rfl)); intro w19 hw; have hg : wr.grownBy w19 (some go15) := (by rw [hw]; exact HP18.2); have hp_ : Kd.R (Kd.int .u8) 5 w19 w.heap.size (fun _ => True) (.slice (some ⟨go15, 0, none⟩) x5_1.length co11) y196 := (by rw [hw, Ny196.out]; exact HP18.1); clear HP18; have n0_ := Aside0.mk (hp_); have n1_ := Aside0.mk ((by rw [hw]; exact below_set (HB.out) GB15.out : Below w.heap.size w w19)); clear HO_5; clear HB; have HO_5 := n0_; have HB := n1_; clear n0_ n1_; clear hg hw hp_; have p17 : 0 ≤ (x26_1 : Int) := of_decide_eq_true (by first | (with_reducible assumption) | assumption); have q17 : (x26_1 : Int) < ((x5_1.length : Int) : Int) := of_decide_eq_true (by first | (with_reducible assumption) | assumption); obtain ⟨hx17_0, hf17_0⟩ := Kd.R_celln 0 HO_5.out (x26_1 : Int) p17 q17; replace p17 := eq_true p17; replace q17 := eq_true q17; obtain ⟨hy20_, hz20_⟩ := Kd.R_celln 0 HO_5.out (x26_1 : Int) (of_decide_eq_true (by first | (with_reducible assumption) | assumption)) (of_decide_eq_true (by first | (with_reducible assumption) | assumption)); have HP20 := Kd.R_putg HO_5.out (x26_1 : Int) 126) | ((with_reducible refine gate_store (t := 5) (p := 37) rfl ?_); refine store_event (t := 5) (p := 37) (v := ?vo_w21) (w1 := (w19.setCell ⟨go15, (x26_1 : Int).toNat, none⟩ (.int .u8 126))) ?hg ?ho ?hn ?hr ?_; (case ho => rfl); (case hg => rfl); (case hn => rfl); (case hr => first | (go_simp; done) | (go_simp; rfl)); intro w21 hw; have hg : w19.grownBy w21 (some go15) := (by rw [hw]; exact HP20.2); have hp_ : Kd.R (Kd.int .u8) 5 w21 w.heap.size (fun _ => True) (.slice (some ⟨go15, 0, none⟩) x5_1.length co11) y197 := (by rw [hw, Ny197.out]; exact HP20.1); clear HP20; have n0_ := Aside0.mk (hp_); have n1_ := Aside0.mk ((by rw [hw]; exact below_set (HB.out) GB15.out : Below w.heap.size w w21)); clear HO_5; clear HB; have HO_5 := n0_; have HB := n1_; clear n0_ n1_; clear hg hw hp_))
                    (try simp only [← hl5_1])
                    go_roundg k1
                    case measure => have := HK1.out; omega
                    case rel => exact ⟨(y197), (wrap64 (x26_1 + 1)), (by first | rfl | (simp; done) | (simp [*]; done)), H', ⟨by have := HK1.out; omega⟩, ⟨by (try simp only [hl5_1]); (with_reducible repeat (first | apply Kd.R_alloc | apply Kd.R_drewN | apply Kd.R_drew)); exact HO_5.out⟩, ⟨by repeat (first | (with_reducible first | exact HB.out | apply below_alloc | apply pw_below_drewN | apply below_drew1) | exact HB.out)⟩⟩
                  · rw [if_neg c16] at H
                    have c16b0 : decide (x26_1 < (wrap64 (Int.tmod (IntKind.u64.wrap (a0)) 2510))) = false := decide_eq_false c16
                    clear c16
                    have H' := Aside0.mk H
                    clear H
                    have p15 : 0 ≤ (x26_1 : Int) := of_decide_eq_true (by first | (with_reducible assumption) | assumption)
                    have q15 : (x26_1 : Int) < ((x5_1.length : Int) : Int) := of_decide_eq_true (by first | (with_reducible assumption) | assumption)
                    obtain ⟨go15, co15, eo15, gb15, gl15, cl15, HG15⟩ := Kd.R_form HO_5.out (by omega)
                    (first | cases eo15 | (injection eo15 with ea_ en_ ec_; (first | subst ea_ | (injection ea_ with ea_; subst ea_)); subst ec_; clear en_))
                    have GB15 := Aside0.mk gb15
                    have GG15 := Aside0.mk HG15
                    clear gb15 gl15 HG15
                    obtain ⟨hx15_0, hf15_0⟩ := Kd.R_celln 0 HO_5.out (x26_1 : Int) p15 q15
                    replace p15 := eq_true p15
                    replace q15 := eq_true q15
                    have HP22 := Kd.R_putg HO_5.out (x26_1 : Int) 32
                    go_wp2_with (first | ((with_reducible refine gate_store (t := 5) (p := 31) rfl ?_); refine store_event (t := 5) (p := 31) (v := ?vo_w23) (w1 := (wr.setCell ⟨go15, (x26_1 : Int).toNat, none⟩ (.int .u8 32))) ?hg ?ho ?hn ?hr ?_; (case ho => rfl); (case hg => rfl); (case hn => rfl); (case hr => first | (go_simp; done) | (go_simp; rfl)); intro w23 hw; have hg : wr.grownBy w23 (some go15) := (by rw [hw]; exact HP22.2); have hp_ : Kd.R (Kd.int .u8) 5 w23 w.heap.size (fun _ => True) (.slice (some ⟨go15, 0, none⟩) x5_1.length co11) y196 := (by rw [hw, Ny196.out]; exact HP22.1); clear HP22; have n0_ := Aside0.mk (hp_); have n1_ := Aside0.mk ((by rw [hw]; exact below_set (HB.out) GB15.out : Below w.heap.size w w23)); clear HO_5; clear HB; have HO_5 := n0_; have HB := n1_; clear n0_ n1_; clear hg hw hp_))
                    (try simp only [← hl5_1])
                    go_roundg k1
                    case measure => have := HK1.out; omega
                    case rel => exact ⟨(y196), (wrap64 (x26_1 + 1)), (by first | rfl | (simp; done) | (simp [*]; done)), H', ⟨by have := HK1.out; omega⟩, ⟨by (try simp only [hl5_1]); (with_reducible repeat (first | apply Kd.R_alloc | apply Kd.R_drewN | apply Kd.R_drew)); exact HO_5.out⟩, ⟨by repeat (first | (with_reducible first | exact HB.out | apply below_alloc | apply pw_below_drewN | apply below_drew1) | exact HB.out)⟩⟩
                · rw [if_neg c14] at H
                  exact absurd H (by simp)
              · rw [if_neg c13] at H
                exact absurd H (by simp)
            · rw [if_neg c12] at H
              have c12b0 : decide (x26_1 < (x5_1.length : Int)) = false := decide_eq_false (by rw [← hl5_1]; exact c12)
              clear c12
              replace H := Option.bind_eq_some_iff.mp H
              obtain ⟨⟨t198, t199, t200⟩, A240, H⟩ := H
              replace H : (if (wrap64 ((wrap64 (Int.tmod (IntKind.u64.wrap (a0)) 2510)) + (wrap64 (Int.tmod (IntKind.u64.wrap (a1)) 8200)))) > 8192 then (if t200 = 3 then (some (t199 == 8192)) else (some false)) else (if (wrap64 (Int.tmod (IntKind.u64.wrap (a0)) 2510)) > 2500 then (if t200 = 3 then (some (t199 == 2500)) else (some false)) else (if t200 = 0 then (some ((t198.length : Int) == (wrap64 ((wrap64 (Int.tmod (IntKind.u64.wrap (a0)) 2510)) + 1)))) else (some false)))) = some r := H
              have A24 := Aside0.mk A240
              clear A240
              by_cases c25 : (wrap64 ((wrap64 (Int.tmod (IntKind.u64.wrap (a0)) 2510)) + (wrap64 (Int.tmod (IntKind.u64.wrap (a1)) 8200)))) > 8192
              · rw [if_pos c25] at H
                have c25b0 : decide (8192 < ji5) = true := decide_eq_true (by rw [← hji5]; exact c25)
                clear c25
                by_cases c26 : t200 = 3
                · rw [if_pos c26] at H
                  have c26b0 : (t200 == 3) = true := beq_iff_eq.mpr c26
                  have c26b1 : (t200 != 3) = false := bne_eq_false_iff_eq.mpr c26
                  clear c26
                  obtain rfl := Option.some.inj H
                  have hcv27 := own_string (P := Tryd.prog) Tryd.underlying38 Tryd.underlying5 Tryd.underlying9 (Kd.own_of_R HO_5.out)
                  go_wp2_with (first | ((with_reducible refine gate_callee (f := 11) rfl ?_); refine goesL_ (some 42) rfl rfl Tryd.func11 (by kernel_rfl) rfl #[.string (strOfNums x5_1)] rfl (by (try simp only [List.map_toArray, List.map_cons, List.map_nil]); first | done | rfl | (simp only [List.length_drop, List.length_take]; rfl)) ?_; (with_reducible refine (lex_Lex.calls k1 (strOfNums x5_1) t198 t199 t200 _ ?side1 A24.out).mono ?_); (case side1 => (first | ((repeat (first | (with_reducible exact hL) | apply Laid.drewN | apply Laid.drew | apply Laid.alloc)); done) | exact Laid.below hL (by repeat (first | (with_reducible first | exact HB.out | apply below_alloc | apply pw_below_drewN | apply below_drew1) | exact HB.out)))); rintro e w28 ⟨v201, rfl, ho0, hb⟩; refine ⟨_, rfl, ?_⟩; have n0_ := Aside0.mk (Kd.R_below (by (with_reducible repeat (first | apply Kd.R_alloc | apply Kd.R_drewN | apply Kd.R_drew)); exact HO_5.out) hb); have n1_ := Aside0.mk (Kd.R_lower ho0 (below_size (by repeat (first | (with_reducible first | exact HB.out | apply below_alloc | apply pw_below_drewN | apply below_drew1) | exact HB.out)))); have n2_ := Aside0.mk (below_step (by repeat (first | (with_reducible first | exact HB.out | apply below_alloc | apply pw_below_drewN | apply below_drew1) | exact HB.out)) hb); clear HO_5; clear HB; have HO_5 := n0_; have HO202 := n1_; have HB := n2_; clear n0_ n1_ n2_; (try clear hb); (try clear hb2); (try clear hk); (try clear hi); (try clear ho0)))
                  go_ret
                  exact ⟨by first | rfl | (simp [errW_none, errW_some] <;> rfl) | (simp only [← hji5]; first | rfl | (simp [errW_none, errW_some] <;> rfl)) | (simp [*, errW_none, errW_some] <;> rfl), by repeat (first | (with_reducible first | exact HB.out | apply below_alloc | apply pw_below_drewN | apply below_drew1) | exact HB.out)⟩
                · rw [if_neg c26] at H
                  have c26b0 : (t200 == 3) = false := beq_eq_false_iff_ne.mpr c26
                  have c26b1 : (t200 != 3) = true := bne_iff_ne.mpr c26
                  obtain rfl := Option.some.inj H
                  have hcv29 := own_string (P := Tryd.prog) Tryd.underlying38 Tryd.underlying5 Tryd.underlying9 (Kd.own_of_R HO_5.out)
                  go_wp2_with (first | ((with_reducible refine gate_callee (f := 11) rfl ?_); refine goesL_ (some 42) rfl rfl Tryd.func11 (by kernel_rfl) rfl #[.string (strOfNums x5_1)] rfl (by (try simp only [List.map_toArray, List.map_cons, List.map_nil]); first | done | rfl | (simp only [List.length_drop, List.length_take]; rfl)) ?_; (with_reducible refine (lex_Lex.calls k1 (strOfNums x5_1) t198 t199 t200 _ ?side1 A24.out).mono ?_); (case side1 => (first | ((repeat (first | (with_reducible exact hL) | apply Laid.drewN | apply Laid.drew | apply Laid.alloc)); done) | exact Laid.below hL (by repeat (first | (with_reducible first | exact HB.out | apply below_alloc | apply pw_below_drewN | apply below_drew1) | exact HB.out)))); rintro e w30 ⟨v201, rfl, ho0, hb⟩; refine ⟨_, rfl, ?_⟩; have n0_ := Aside0.mk (Kd.R_below (by (with_reducible repeat (first | apply Kd.R_alloc | apply Kd.R_drewN | apply Kd.R_drew)); exact HO_5.out) hb); have n1_ := Aside0.mk (Kd.R_lower ho0 (below_size (by repeat (first | (with_reducible first | exact HB.out | apply below_alloc | apply pw_below_drewN | apply below_drew1) | exact HB.out)))); have n2_ := Aside0.mk (below_step (by repeat (first | (with_reducible first | exact HB.out | apply below_alloc | apply pw_below_drewN | apply below_drew1) | exact HB.out)) hb); clear HO_5; clear HB; have HO_5 := n0_; have HO202 := n1_; have HB := n2_; clear n0_ n1_ n2_; (try clear hb); (try clear hb2); (try clear hk); (try clear hi); (try clear ho0)))
                  go_ret
                  exact ⟨by first | rfl | (simp [errW_none, errW_some] <;> rfl) | (simp only [← hji5]; first | rfl | (simp [errW_none, errW_some] <;> rfl)) | (simp [*, errW_none, errW_some] <;> rfl), by repeat (first | (with_reducible first | exact HB.out | apply below_alloc | apply pw_below_drewN | apply below_drew1) | exact HB.out)⟩
              · rw [if_neg c25] at H
                have c25b0 : decide (8192 < ji5) = false := decide_eq_false (by rw [← hji5]; exact c25)
                clear c25
                by_cases c31 : (wrap64 (Int.tmod (IntKind.u64.wrap (a0)) 2510)) > 2500
                · rw [if_pos c31] at H
                  have c31b0 : decide (2500 < (wrap64 (Int.tmod (IntKind.u64.wrap (a0)) 2510))) = true := decide_eq_true c31
                  clear c31
                  by_cases c32 : t200 = 3
                  · rw [if_pos c32] at H
                    have c32b0 : (t200 == 3) = true := beq_iff_eq.mpr c32
                    have c32b1 : (t200 != 3) = false := bne_eq_false_iff_eq.mpr c32
                    clear c32
                    obtain rfl := Option.some.inj H
                    have hcv33 := own_string (P := Tryd.prog) Tryd.underlying38 Tryd.underlying5 Tryd.underlying9 (Kd.own_of_R HO_5.out)
                    go_wp2_with (first | ((with_reducible refine gate_callee (f := 11) rfl ?_); refine goesL_ (some 42) rfl rfl Tryd.func11 (by kernel_rfl) rfl #[.string (strOfNums x5_1)] rfl (by (try simp only [List.map_toArray, List.map_cons, List.map_nil]); first | done | rfl | (simp only [List.length_drop, List.length_take]; rfl)) ?_; (with_reducible refine (lex_Lex.calls k1 (strOfNums x5_1) t198 t199 t200 _ ?side1 A24.out).mono ?_); (case side1 => (first | ((repeat (first | (with_reducible exact hL) | apply Laid.drewN | apply Laid.drew | apply Laid.alloc)); done) | exact Laid.below hL (by repeat (first | (with_reducible first | exact HB.out | apply below_alloc | apply pw_below_drewN | apply below_drew1) | exact HB.out)))); rintro e w34 ⟨v201, rfl, ho0, hb⟩; refine ⟨_, rfl, ?_⟩; have n0_ := Aside0.mk (Kd.R_below (by (with_reducible repeat (first | apply Kd.R_alloc | apply Kd.R_drewN | apply Kd.R_drew)); exact HO_5.out) hb); have n1_ := Aside0.mk (Kd.R_lower ho0 (below_size (by repeat (first | (with_reducible first | exact HB.out | apply below_alloc | apply pw_below_drewN | apply below_drew1) | exact HB.out)))); have n2_ := Aside0.mk (below_step (by repeat (first | (with_reducible first | exact HB.out | apply below_alloc | apply pw_below_drewN | apply below_drew1) | exact HB.out)) hb); clear HO_5; clear HB; have HO_5 := n0_; have HO202 := n1_; have HB := n2_; clear n0_ n1_ n2_; (try clear hb); (try clear hb2); (try clear hk); (try clear hi); (try clear ho0)))
                    go_ret
                    exact ⟨by first | rfl | (simp [errW_none, errW_some] <;> rfl) | (simp only [← hji5]; first | rfl | (simp [errW_none, errW_some] <;> rfl)) | (simp [*, errW_none, errW_some] <;> rfl), by repeat (first | (with_reducible first | exact HB.out | apply below_alloc | apply pw_below_drewN | apply below_drew1) | exact HB.out)⟩
                  · rw [if_neg c32] at H
                    have c32b0 : (t200 == 3) = false := beq_eq_false_iff_ne.mpr c32
                    have c32b1 : (t200 != 3) = true := bne_iff_ne.mpr c32
                    obtain rfl := Option.some.inj H
                    have hcv35 := own_string (P := Tryd.prog) Tryd.underlying38 Tryd.underlying5 Tryd.underlying9 (Kd.own_of_R HO_5.out)
                    go_wp2_with (first | ((with_reducible refine gate_callee (f := 11) rfl ?_); refine goesL_ (some 42) rfl rfl Tryd.func11 (by kernel_rfl) rfl #[.string (strOfNums x5_1)] rfl (by (try simp only [List.map_toArray, List.map_cons, List.map_nil]); first | done | rfl | (simp only [List.length_drop, List.length_take]; rfl)) ?_; (with_reducible refine (lex_Lex.calls k1 (strOfNums x5_1) t198 t199 t200 _ ?side1 A24.out).mono ?_); (case side1 => (first | ((repeat (first | (with_reducible exact hL) | apply Laid.drewN | apply Laid.drew | apply Laid.alloc)); done) | exact Laid.below hL (by repeat (first | (with_reducible first | exact HB.out | apply below_alloc | apply pw_below_drewN | apply below_drew1) | exact HB.out)))); rintro e w36 ⟨v201, rfl, ho0, hb⟩; refine ⟨_, rfl, ?_⟩; have n0_ := Aside0.mk (Kd.R_below (by (with_reducible repeat (first | apply Kd.R_alloc | apply Kd.R_drewN | apply Kd.R_drew)); exact HO_5.out) hb); have n1_ := Aside0.mk (Kd.R_lower ho0 (below_size (by repeat (first | (with_reducible first | exact HB.out | apply below_alloc | apply pw_below_drewN | apply below_drew1) | exact HB.out)))); have n2_ := Aside0.mk (below_step (by repeat (first | (with_reducible first | exact HB.out | apply below_alloc | apply pw_below_drewN | apply below_drew1) | exact HB.out)) hb); clear HO_5; clear HB; have HO_5 := n0_; have HO202 := n1_; have HB := n2_; clear n0_ n1_ n2_; (try clear hb); (try clear hb2); (try clear hk); (try clear hi); (try clear ho0)))
                    go_ret
                    exact ⟨by first | rfl | (simp [errW_none, errW_some] <;> rfl) | (simp only [← hji5]; first | rfl | (simp [errW_none, errW_some] <;> rfl)) | (simp [*, errW_none, errW_some] <;> rfl), by repeat (first | (with_reducible first | exact HB.out | apply below_alloc | apply pw_below_drewN | apply below_drew1) | exact HB.out)⟩
                · rw [if_neg c31] at H
                  have c31b0 : decide (2500 < (wrap64 (Int.tmod (IntKind.u64.wrap (a0)) 2510))) = false := decide_eq_false c31
                  clear c31
                  by_cases c37 : t200 = 0
                  · rw [if_pos c37] at H
                    have c37b0 : (t200 == 0) = true := beq_iff_eq.mpr c37
                    have c37b1 : (t200 != 0) = false := bne_eq_false_iff_eq.mpr c37
                    clear c37
                    obtain rfl := Option.some.inj H
                    have hcv38 := own_string (P := Tryd.prog) Tryd.underlying38 Tryd.underlying5 Tryd.underlying9 (Kd.own_of_R HO_5.out)
                    go_wp2_with (first | ((with_reducible refine gate_callee (f := 11) rfl ?_); refine goesL_ (some 42) rfl rfl Tryd.func11 (by kernel_rfl) rfl #[.string (strOfNums x5_1)] rfl (by (try simp only [List.map_toArray, List.map_cons, List.map_nil]); first | done | rfl | (simp only [List.length_drop, List.length_take]; rfl)) ?_; (with_reducible refine (lex_Lex.calls k1 (strOfNums x5_1) t198 t199 t200 _ ?side1 A24.out).mono ?_); (case side1 => (first | ((repeat (first | (with_reducible exact hL) | apply Laid.drewN | apply Laid.drew | apply Laid.alloc)); done) | exact Laid.below hL (by repeat (first | (with_reducible first | exact HB.out | apply below_alloc | apply pw_below_drewN | apply below_drew1) | exact HB.out)))); rintro e w39 ⟨v201, rfl, ho0, hb⟩; refine ⟨_, rfl, ?_⟩; have n0_ := Aside0.mk (Kd.R_below (by (with_reducible repeat (first | apply Kd.R_alloc | apply Kd.R_drewN | apply Kd.R_drew)); exact HO_5.out) hb); have n1_ := Aside0.mk (Kd.R_lower ho0 (below_size (by repeat (first | (with_reducible first | exact HB.out | apply below_alloc | apply pw_below_drewN | apply below_drew1) | exact HB.out)))); have n2_ := Aside0.mk (below_step (by repeat (first | (with_reducible first | exact HB.out | apply below_alloc | apply pw_below_drewN | apply below_drew1) | exact HB.out)) hb); clear HO_5; clear HB; have HO_5 := n0_; have HO202 := n1_; have HB := n2_; clear n0_ n1_ n2_; (try clear hb); (try clear hb2); (try clear hk); (try clear hi); (try clear ho0); obtain ⟨Ao40, co40, eo40⟩ := Kd.R_slice HO202.out; subst eo40))
                    go_ret
                    exact ⟨by first | rfl | (simp [errW_none, errW_some] <;> rfl) | (simp only [← hji5]; first | rfl | (simp [errW_none, errW_some] <;> rfl)) | (simp [*, errW_none, errW_some] <;> rfl), by repeat (first | (with_reducible first | exact HB.out | apply below_alloc | apply pw_below_drewN | apply below_drew1) | exact HB.out)⟩
                  · rw [if_neg c37] at H
                    have c37b0 : (t200 == 0) = false := beq_eq_false_iff_ne.mpr c37
                    have c37b1 : (t200 != 0) = true := bne_iff_ne.mpr c37
                    obtain rfl := Option.some.inj H
                    have hcv41 := own_string (P := Tryd.prog) Tryd.underlying38 Tryd.underlying5 Tryd.underlying9 (Kd.own_of_R HO_5.out)
                    go_wp2_with (first | ((with_reducible refine gate_callee (f := 11) rfl ?_); refine goesL_ (some 42) rfl rfl Tryd.func11 (by kernel_rfl) rfl #[.string (strOfNums x5_1)] rfl (by (try simp only [List.map_toArray, List.map_cons, List.map_nil]); first | done | rfl | (simp only [List.length_drop, List.length_take]; rfl)) ?_; (with_reducible refine (lex_Lex.calls k1 (strOfNums x5_1) t198 t199 t200 _ ?side1 A24.out).mono ?_); (case side1 => (first | ((repeat (first | (with_reducible exact hL) | apply Laid.drewN | apply Laid.drew | apply Laid.alloc)); done) | exact Laid.below hL (by repeat (first | (with_reducible first | exact HB.out | apply below_alloc | apply pw_below_drewN | apply below_drew1) | exact HB.out)))); rintro e w42 ⟨v201, rfl, ho0, hb⟩; refine ⟨_, rfl, ?_⟩; have n0_ := Aside0.mk (Kd.R_below (by (with_reducible repeat (first | apply Kd.R_alloc | apply Kd.R_drewN | apply Kd.R_drew)); exact HO_5.out) hb); have n1_ := Aside0.mk (Kd.R_lower ho0 (below_size (by repeat (first | (with_reducible first | exact HB.out | apply below_alloc | apply pw_below_drewN | apply below_drew1) | exact HB.out)))); have n2_ := Aside0.mk (below_step (by repeat (first | (with_reducible first | exact HB.out | apply below_alloc | apply pw_below_drewN | apply below_drew1) | exact HB.out)) hb); clear HO_5; clear HB; have HO_5 := n0_; have HO202 := n1_; have HB := n2_; clear n0_ n1_ n2_; (try clear hb); (try clear hb2); (try clear hk); (try clear hi); (try clear ho0)))
                    go_ret
                    exact ⟨by first | rfl | (simp [errW_none, errW_some] <;> rfl) | (simp only [← hji5]; first | rfl | (simp [errW_none, errW_some] <;> rfl)) | (simp [*, errW_none, errW_some] <;> rfl), by repeat (first | (with_reducible first | exact HB.out | apply below_alloc | apply pw_below_drewN | apply below_drew1) | exact HB.out)⟩
      · rw [if_neg c7] at H
        exact absurd H (by simp)
    · rw [if_neg c6] at H
      exact absurd H (by simp)
  · replace c4 := Bool.eq_false_iff.mpr c4
    subst c4
    have H1 : (some false) = some r := by rw [if_neg (show ¬ (false = true) by decide)] at H; exact H
    clear H
    have H := H1
    clear H1
    obtain rfl := Option.some.inj H
    go_enter Tryd.func8, Tryd.ntmps8
    go_wp2_with (first | ((with_reducible refine gate_callee (f := 10) rfl ?_); refine goesL_ (some 10) rfl rfl Tryd.func10 (by kernel_rfl) rfl #[] rfl (by (try simp only [List.map_toArray, List.map_cons, List.map_nil]); first | done | rfl | (simp only [List.length_drop, List.length_take]; rfl)) ?_; (with_reducible refine (hauberklaw05_awake.calls k  false _ ?side1 A3.out).mono ?_); (case side1 => (first | ((repeat (first | (with_reducible exact hL) | apply Laid.drewN | apply Laid.drew | apply Laid.alloc)); done) | exact Laid.below hL (by repeat (first | (with_reducible first | exact HB.out | apply below_alloc | apply pw_below_drewN | apply below_drew1) | exact HB.out)))); rintro e w43 ⟨rfl, hb⟩; refine ⟨_, rfl, ?_⟩; have n0_ := Aside0.mk (below_step (by repeat (first | (with_reducible first | exact HB.out | apply below_alloc | apply pw_below_drewN | apply below_drew1) | exact HB.out)) hb); clear HB; have HB := n0_; clear n0_; (try clear hb); (try clear hb2); (try clear hk); (try clear hi)))
    go_ret
    exact ⟨by first | rfl | (simp [errW_none, errW_some] <;> rfl) | (simp [*, errW_none, errW_some] <;> rfl), by repeat (first | (with_reducible first | exact HB.out | apply below_alloc | apply pw_below_drewN | apply below_drew1) | exact HB.out)⟩

/-- THE ONE PURE STATEMENT of hauberklaw05_LexLimits: yours. -/
def hauberklaw05_LexLimits.Pure : Prop := ∀ (a0 : Int) (a1 : Int), (Lit.int .i64 a0).wf = true → (Lit.int .i64 a1).wf = true → ∃ k, hauberklaw05_LexLimits.f k a0 a1 = some true
theorem hauberklaw05_LexLimits.walk (P : hauberklaw05_LexLimits.Pure) (a0 : Int) (a1 : Int) (w : World) (hL : Laid w) (w0 : (Lit.int .i64 a0).wf = true) (w1 : (Lit.int .i64 a1).wf = true) :
    Calls Tryd.prog 8 #[.int .i64 a0, .int .i64 a1] w fun e w' => e = .returned (.bool true) ∧ Below w.heap.size w w' := by
  obtain ⟨k, h⟩ := P a0 a1 w0 w1
  refine (hauberklaw05_LexLimits.calls k a0 a1 true w hL h).mono ?_
  rintro e w' ⟨rfl, hd⟩
  exact ⟨rfl, hd⟩

end Go.Proofs.YtjegaejdphmdgaaDoor.Print
