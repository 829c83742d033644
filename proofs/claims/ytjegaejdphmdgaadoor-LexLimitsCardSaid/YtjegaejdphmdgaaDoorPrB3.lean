-- printed by myprint.py, a session's own driver around the kit's printing program
import Derived.Test.YtjegaejdphmdgaaDoorPrB0
import Derived.Test.YtjegaejdphmdgaaDoorPrB2
namespace Go.Proofs.YtjegaejdphmdgaaDoor.Print
open Go.RowKit Go.Proofs.YtjegaejdphmdgaaDoorW.PrintWords Go.Proofs.YtjegaejdphmdgaaDoorW.PrintLast Go.Proofs.YtjegaejdphmdgaaDoorW.PrintMore
attribute [local go_sem] max2_int min2_int max_two min_two max_three min_three max_four min_four   -- for this text's walks alone
set_option linter.unusedVariables false
set_option linter.unusedSimpArgs false

/-! ### hauberklaw05_LexReads: function 3 -/
mutual
def hauberklaw05_LexReads.j0 : Nat → ByteArray → List (S31) → List (S31) → Bool → Option (Bool)
  | 0, _, _, _, _ => none
  | k + 1, x0, x3, x6, x45 => if x45 = true then (some false) else (hauberklaw05_LexReads.l0 k x0 x3 x6 (x3.length : Int) 0)
def hauberklaw05_LexReads.l0 : Nat → ByteArray → List (S31) → List (S31) → Int → Int → Option (Bool)
  | 0, _, _, _, _, _ => none
  | k + 1, x0, x3, x6, x47, x48 => if x48 < x47 then (if 0 ≤ x48 then (if x48 < (x3.length : Int) then (hauberklaw05_LexReads.l0 k x0 (x3.set (x48 : Int).toNat (⟨(-1), (rd_T31 x3 x48).f1, (rd_T31 x3 x48).f2⟩ : S31)) x6 x47 (wrap64 (x48 + 1))) else (none)) else (none)) else ((lex_Lex.f k x0).bind fun bt151 => ((hauberklaw05_same.f k bt151.1 x6).bind fun t156 => (some t156)))
end
def hauberklaw05_LexReads.f (k : Nat) (a0 : ByteArray) : Option (Bool) := (hauberklaw05_awake.f k).bind fun t138 => (if t138 = true then (if 0 ≤ (mn (a0.size : Int) 8193) then (if (mn (a0.size : Int) 8193) ≤ (a0.size : Int) then ((lex_Lex.f k (a0.extract 0 ((mn (a0.size : Int) 8193) : Int).toNat)).bind fun bt139 => ((hauberkref05_Lex.f k (a0.extract 0 ((mn (a0.size : Int) 8193) : Int).toNat)).bind fun bt144 => (if bt139.2.2 = bt144.2.2 then (if bt139.2.1 = bt144.2.1 then ((hauberklaw05_same.f k bt139.1 bt144.1).bind fun t149 => (hauberklaw05_LexReads.j0 k (a0.extract 0 ((mn (a0.size : Int) 8193) : Int).toNat) bt139.1 bt144.1 (!t149))) else (hauberklaw05_LexReads.j0 k (a0.extract 0 ((mn (a0.size : Int) 8193) : Int).toNat) bt139.1 bt144.1 true)) else (hauberklaw05_LexReads.j0 k (a0.extract 0 ((mn (a0.size : Int) 8193) : Int).toNat) bt139.1 bt144.1 true)))) else (none)) else (none)) else (some false))
theorem hauberklaw05_LexReads.mono_l : ∀ k, (∀ y0 y1 y2 y3, LeO (hauberklaw05_LexReads.j0 k y0 y1 y2 y3) (hauberklaw05_LexReads.j0 (k + 1) y0 y1 y2 y3)) ∧ (∀ y0 y1 y2 y3 y4, LeO (hauberklaw05_LexReads.l0 k y0 y1 y2 y3 y4) (hauberklaw05_LexReads.l0 (k + 1) y0 y1 y2 y3 y4))
  | 0 => ⟨fun _ _ _ _ r h => by simp [hauberklaw05_LexReads.j0] at h, fun _ _ _ _ _ r h => by simp [hauberklaw05_LexReads.l0] at h⟩
  | k + 1 => by
    obtain ⟨ih0, ih1⟩ := hauberklaw05_LexReads.mono_l k
    refine ⟨?_, ?_⟩
    · intro y0 y1 y2 y3
      unfold hauberklaw05_LexReads.j0
      repeat' first
      | (with_reducible exact ih0 _ _ _ _)
      | (with_reducible exact ih1 _ _ _ _ _)
      | (with_reducible exact hauberklaw05_awake.mono _)
      | (with_reducible exact hauberklaw05_same.mono _ _ _)
      | (with_reducible exact hauberkref05_Lex.mono _ _)
      | (with_reducible exact lex_Lex.mono _ _)
      | (with_reducible exact LeO.refl _)
      | (with_reducible exact LeO.none _)
      | (with_reducible refine LeO.ite ?_ ?_)
      | (with_reducible refine LeO.bind ?_ (fun _ => ?_))
      | exact ih0 _ _ _ _
      | exact ih1 _ _ _ _ _
      | exact hauberklaw05_awake.mono _
      | exact hauberklaw05_same.mono _ _ _
      | exact hauberkref05_Lex.mono _ _
      | exact lex_Lex.mono _ _
      | exact LeO.none _
      | refine LeO.ite ?_ ?_
      | refine LeO.bind ?_ (fun _ => ?_)
    · intro y0 y1 y2 y3 y4
      unfold hauberklaw05_LexReads.l0
      repeat' first
      | (with_reducible exact ih0 _ _ _ _)
      | (with_reducible exact ih1 _ _ _ _ _)
      | (with_reducible exact hauberklaw05_awake.mono _)
      | (with_reducible exact hauberklaw05_same.mono _ _ _)
      | (with_reducible exact hauberkref05_Lex.mono _ _)
      | (with_reducible exact lex_Lex.mono _ _)
      | (with_reducible exact LeO.refl _)
      | (with_reducible exact LeO.none _)
      | (with_reducible refine LeO.ite ?_ ?_)
      | (with_reducible refine LeO.bind ?_ (fun _ => ?_))
      | exact ih0 _ _ _ _
      | exact ih1 _ _ _ _ _
      | exact hauberklaw05_awake.mono _
      | exact hauberklaw05_same.mono _ _ _
      | exact hauberkref05_Lex.mono _ _
      | exact lex_Lex.mono _ _
      | exact LeO.none _
      | refine LeO.ite ?_ ?_
      | refine LeO.bind ?_ (fun _ => ?_)
theorem hauberklaw05_LexReads.mono : ∀ a0 k, LeO (hauberklaw05_LexReads.f k a0) (hauberklaw05_LexReads.f (k + 1) a0) := by
  intro a0 k
  obtain ⟨ih0, ih1⟩ := hauberklaw05_LexReads.mono_l k
  unfold hauberklaw05_LexReads.f
  repeat' first
      | (with_reducible exact ih0 _ _ _ _)
      | (with_reducible exact ih1 _ _ _ _ _)
      | (with_reducible exact hauberklaw05_awake.mono _)
      | (with_reducible exact hauberklaw05_same.mono _ _ _)
      | (with_reducible exact hauberkref05_Lex.mono _ _)
      | (with_reducible exact lex_Lex.mono _ _)
      | (with_reducible exact LeO.refl _)
      | (with_reducible exact LeO.none _)
      | (with_reducible refine LeO.ite ?_ ?_)
      | (with_reducible refine LeO.bind ?_ (fun _ => ?_))
      | exact ih0 _ _ _ _
      | exact ih1 _ _ _ _ _
      | exact hauberklaw05_awake.mono _
      | exact hauberklaw05_same.mono _ _ _
      | exact hauberkref05_Lex.mono _ _
      | exact lex_Lex.mono _ _
      | exact LeO.none _
      | refine LeO.ite ?_ ?_
      | refine LeO.bind ?_ (fun _ => ?_)
set_option maxHeartbeats 8000000 in
set_option maxRecDepth 100000 in
theorem hauberklaw05_LexReads.calls (k : Nat) (a0 : ByteArray) (r : Bool) (w : World) (hL : Laid w) (h : hauberklaw05_LexReads.f k a0 = some r) :
    Calls Tryd.prog 3 #[.string a0] w fun e w' => e = .returned (.bool r) ∧ Below w.heap.size w w' := by
  have HB := Aside0.mk (Below.refl w.heap.size w)
  have H : ((hauberklaw05_awake.f k).bind fun t138 => (if t138 = true then (if 0 ≤ (mn (a0.size : Int) 8193) then (if (mn (a0.size : Int) 8193) ≤ (a0.size : Int) then ((lex_Lex.f k (a0.extract 0 ((mn (a0.size : Int) 8193) : Int).toNat)).bind fun bt139 => ((hauberkref05_Lex.f k (a0.extract 0 ((mn (a0.size : Int) 8193) : Int).toNat)).bind fun bt144 => (if bt139.2.2 = bt144.2.2 then (if bt139.2.1 = bt144.2.1 then ((hauberklaw05_same.f k bt139.1 bt144.1).bind fun t149 => (hauberklaw05_LexReads.j0 k (a0.extract 0 ((mn (a0.size : Int) 8193) : Int).toNat) bt139.1 bt144.1 (!t149))) else (hauberklaw05_LexReads.j0 k (a0.extract 0 ((mn (a0.size : Int) 8193) : Int).toNat) bt139.1 bt144.1 true)) else (hauberklaw05_LexReads.j0 k (a0.extract 0 ((mn (a0.size : Int) 8193) : Int).toNat) bt139.1 bt144.1 true)))) else (none)) else (none)) else (some false))) = some r := h
  clear h
  replace H := Option.bind_eq_some_iff.mp H
  obtain ⟨t138, A20, H⟩ := H
  replace H : (if t138 = true then (if 0 ≤ (mn (a0.size : Int) 8193) then (if (mn (a0.size : Int) 8193) ≤ (a0.size : Int) then ((lex_Lex.f k (a0.extract 0 ((mn (a0.size : Int) 8193) : Int).toNat)).bind fun bt139 => ((hauberkref05_Lex.f k (a0.extract 0 ((mn (a0.size : Int) 8193) : Int).toNat)).bind fun bt144 => (if bt139.2.2 = bt144.2.2 then (if bt139.2.1 = bt144.2.1 then ((hauberklaw05_same.f k bt139.1 bt144.1).bind fun t149 => (hauberklaw05_LexReads.j0 k (a0.extract 0 ((mn (a0.size : Int) 8193) : Int).toNat) bt139.1 bt144.1 (!t149))) else (hauberklaw05_LexReads.j0 k (a0.extract 0 ((mn (a0.size : Int) 8193) : Int).toNat) bt139.1 bt144.1 true)) else (hauberklaw05_LexReads.j0 k (a0.extract 0 ((mn (a0.size : Int) 8193) : Int).toNat) bt139.1 bt144.1 true)))) else (none)) else (none)) else (some false)) = some r := H
  have A2 := Aside0.mk A20
  clear A20
  by_cases c3 : t138 = true
  · subst c3
    have H1 : (if 0 ≤ (mn (a0.size : Int) 8193) then (if (mn (a0.size : Int) 8193) ≤ (a0.size : Int) then ((lex_Lex.f k (a0.extract 0 ((mn (a0.size : Int) 8193) : Int).toNat)).bind fun bt139 => ((hauberkref05_Lex.f k (a0.extract 0 ((mn (a0.size : Int) 8193) : Int).toNat)).bind fun bt144 => (if bt139.2.2 = bt144.2.2 then (if bt139.2.1 = bt144.2.1 then ((hauberklaw05_same.f k bt139.1 bt144.1).bind fun t149 => (hauberklaw05_LexReads.j0 k (a0.extract 0 ((mn (a0.size : Int) 8193) : Int).toNat) bt139.1 bt144.1 (!t149))) else (hauberklaw05_LexReads.j0 k (a0.extract 0 ((mn (a0.size : Int) 8193) : Int).toNat) bt139.1 bt144.1 true)) else (hauberklaw05_LexReads.j0 k (a0.extract 0 ((mn (a0.size : Int) 8193) : Int).toNat) bt139.1 bt144.1 true)))) else (none)) else (none)) = some r := by rw [if_pos rfl] at H; exact H
    clear H
    have H := H1
    clear H1
    obtain ⟨ji4, hji4⟩ : ∃ j_ : Int, (mn (a0.size : Int) 8193) = j_ := ⟨_, rfl⟩
    replace H : (if 0 ≤ (ji4) then (if (ji4) ≤ (a0.size : Int) then ((lex_Lex.f k (a0.extract 0 ((ji4) : Int).toNat)).bind fun bt139 => ((hauberkref05_Lex.f k (a0.extract 0 ((ji4) : Int).toNat)).bind fun bt144 => (if bt139.2.2 = bt144.2.2 then (if bt139.2.1 = bt144.2.1 then ((hauberklaw05_same.f k bt139.1 bt144.1).bind fun t149 => (hauberklaw05_LexReads.j0 k (a0.extract 0 ((ji4) : Int).toNat) bt139.1 bt144.1 (!t149))) else (hauberklaw05_LexReads.j0 k (a0.extract 0 ((ji4) : Int).toNat) bt139.1 bt144.1 true)) else (hauberklaw05_LexReads.j0 k (a0.extract 0 ((ji4) : Int).toNat) bt139.1 bt144.1 true)))) else (none)) else (none)) = some r := by first | (rw [hji4] at H; exact H) | (simp only [hji4] at H ⊢; exact H)
    (try rw [hji4] at A2)
    (try (have hji4h : ji4 ≤ 8193 := by (rw [← hji4]; unfold mn; (repeat' split) <;> omega)))
    (try (have hji4g : ji4 ≤ 64 := by omega))
    (try (have hji4l : 0 ≤ ji4 := by (rw [← hji4]; unfold mn; (repeat' split) <;> omega)))
    (try (have hji4m : 0 ≤ ji4 := by omega))
    have hji4_ : (if 8193 < (a0.size : Int) then 8193 else (a0.size : Int)) = ji4 := hji4
    by_cases c5 : 0 ≤ (ji4)
    · rw [if_pos c5] at H
      have c5b0 := eq_true c5
      have c5b1 : decide (0 ≤ (ji4)) = true := decide_eq_true c5
      clear c5
      by_cases c6 : (ji4) ≤ (a0.size : Int)
      · rw [if_pos c6] at H
        have c6b0 := eq_true c6
        have c6b1 : decide ((ji4) ≤ (a0.size : Int)) = true := decide_eq_true c6
        clear c6
        replace H := Option.bind_eq_some_iff.mp H
        obtain ⟨⟨t139, t140, t141⟩, A70, H⟩ := H
        replace H : ((hauberkref05_Lex.f k (a0.extract 0 ((ji4) : Int).toNat)).bind fun bt144 => (if t141 = bt144.2.2 then (if t140 = bt144.2.1 then ((hauberklaw05_same.f k t139 bt144.1).bind fun t149 => (hauberklaw05_LexReads.j0 k (a0.extract 0 ((ji4) : Int).toNat) t139 bt144.1 (!t149))) else (hauberklaw05_LexReads.j0 k (a0.extract 0 ((ji4) : Int).toNat) t139 bt144.1 true)) else (hauberklaw05_LexReads.j0 k (a0.extract 0 ((ji4) : Int).toNat) t139 bt144.1 true))) = some r := H
        have A7 := Aside0.mk A70
        clear A70
        replace H := Option.bind_eq_some_iff.mp H
        obtain ⟨⟨t144, t145, t146⟩, A80, H⟩ := H
        replace H : (if t141 = t146 then (if t140 = t145 then ((hauberklaw05_same.f k t139 t144).bind fun t149 => (hauberklaw05_LexReads.j0 k (a0.extract 0 ((ji4) : Int).toNat) t139 t144 (!t149))) else (hauberklaw05_LexReads.j0 k (a0.extract 0 ((ji4) : Int).toNat) t139 t144 true)) else (hauberklaw05_LexReads.j0 k (a0.extract 0 ((ji4) : Int).toNat) t139 t144 true)) = some r := H
        have A8 := Aside0.mk A80
        clear A80
        have HC9 := Aside0.mk H
        clear H
        go_enter Tryd.func3, Tryd.ntmps3
        go_upto_region 6 with (first | ((with_reducible refine gate_callee (f := 10) rfl ?_); refine goesL_ (some 13) rfl rfl Tryd.func10 (by kernel_rfl) rfl #[] rfl (by (try simp only [List.map_toArray, List.map_cons, List.map_nil]); first | done | rfl | (simp only [List.length_drop, List.length_take]; rfl)) ?_; (with_reducible refine (hauberklaw05_awake.calls k  true _ ?side1 A2.out).mono ?_); (case side1 => (first | ((repeat (first | (with_reducible exact hL) | apply Laid.drewN | apply Laid.drew | apply Laid.alloc)); done) | exact Laid.below hL (by repeat (first | (with_reducible first | exact HB.out | apply below_alloc | apply pw_below_drewN | apply below_drew1) | exact HB.out)))); rintro e w10 ⟨rfl, hb⟩; refine ⟨_, rfl, ?_⟩; have n0_ := Aside0.mk (below_step (by repeat (first | (with_reducible first | exact HB.out | apply below_alloc | apply pw_below_drewN | apply below_drew1) | exact HB.out)) hb); clear HB; have HB := n0_; clear n0_; (try clear hb); (try clear hb2); (try clear hk); (try clear hi)) | ((with_reducible refine gate_callee (f := 11) rfl ?_); refine goesL_ (some 22) rfl rfl Tryd.func11 (by kernel_rfl) rfl #[.string (a0.extract 0 ((ji4) : Int).toNat)] rfl (by (try simp only [List.map_toArray, List.map_cons, List.map_nil]); first | done | (simp only [hji4]; rfl) | rfl | (simp only [List.length_drop, List.length_take]; rfl)) ?_; (with_reducible refine (lex_Lex.calls k (a0.extract 0 ((ji4) : Int).toNat) t139 t140 t141 _ ?side1 A7.out).mono ?_); (case side1 => (first | ((repeat (first | (with_reducible exact hL) | apply Laid.drewN | apply Laid.drew | apply Laid.alloc)); done) | exact Laid.below hL (by repeat (first | (with_reducible first | exact HB.out | apply below_alloc | apply pw_below_drewN | apply below_drew1) | exact HB.out)))); rintro e w11 ⟨v142, rfl, ho0, hb⟩; refine ⟨_, rfl, ?_⟩; have n0_ := Aside0.mk (Kd.R_lower ho0 (below_size (by repeat (first | (with_reducible first | exact HB.out | apply below_alloc | apply pw_below_drewN | apply below_drew1) | exact HB.out)))); have n1_ := Aside0.mk (below_step (by repeat (first | (with_reducible first | exact HB.out | apply below_alloc | apply pw_below_drewN | apply below_drew1) | exact HB.out)) hb); clear HB; have HO143 := n0_; have HB := n1_; clear n0_ n1_; (try clear hb); (try clear hb2); (try clear hk); (try clear hi); (try clear ho0)) | ((with_reducible refine gate_callee (f := 12) rfl ?_); refine goesL_ (some 28) rfl rfl Tryd.func12 (by kernel_rfl) rfl #[.string (a0.extract 0 ((ji4) : Int).toNat)] rfl (by (try simp only [List.map_toArray, List.map_cons, List.map_nil]); first | done | (simp only [hji4]; rfl) | rfl | (simp only [List.length_drop, List.length_take]; rfl)) ?_; (with_reducible refine (hauberkref05_Lex.calls k (a0.extract 0 ((ji4) : Int).toNat) t144 t145 t146 _ ?side1 A8.out).mono ?_); (case side1 => (first | ((repeat (first | (with_reducible exact hL) | apply Laid.drewN | apply Laid.drew | apply Laid.alloc)); done) | exact Laid.below hL (by repeat (first | (with_reducible first | exact HB.out | apply below_alloc | apply pw_below_drewN | apply below_drew1) | exact HB.out)))); rintro e w12 ⟨v147, rfl, ho0, hb⟩; refine ⟨_, rfl, ?_⟩; have n0_ := Aside0.mk (Kd.R_elder' (by (with_reducible repeat (first | apply Kd.R_alloc | apply Kd.R_drewN | apply Kd.R_drew)); exact HO143.out) (Kd.R_base ho0) hb); have n1_ := Aside0.mk (Kd.R_lower (Kd.R_new' ho0 (Kd.R_lt (by (with_reducible repeat (first | apply Kd.R_alloc | apply Kd.R_drewN | apply Kd.R_drew)); exact HO143.out))) (below_size (by repeat (first | (with_reducible first | exact HB.out | apply below_alloc | apply pw_below_drewN | apply below_drew1) | exact HB.out)))); have n2_ := Aside0.mk (below_step (by repeat (first | (with_reducible first | exact HB.out | apply below_alloc | apply pw_below_drewN | apply below_drew1) | exact HB.out)) hb); clear HO143; clear HB; have HO143 := n0_; have HO148 := n1_; have HB := n2_; clear n0_ n1_ n2_; (try clear hb); (try clear hb2); (try clear hk); (try clear hi); (try clear ho0)))
        (try simp only [Act.put, List.setIfInBounds_toArray, List.set_cons_zero, List.set_cons_succ])
        go_cut [45] (fun v45 wc => ∃ (kq : Nat) (x45_8 : Bool), v45 = .bool x45_8 ∧ Aside0 (hauberklaw05_LexReads.j0 kq (a0.extract 0 ((ji4) : Int).toNat) t139 t144 x45_8 = some r) ∧ Aside0 (kq ≤ k) ∧ Aside0 (Kd.R k31 31 wc w.heap.size (fun k_ => some k_ ≠ (v147 : Value).ownBlock) v142 t139) ∧ Aside0 (Kd.R k31 31 wc w.heap.size (fun k_ => some k_ ≠ (v142 : Value).ownBlock) v147 t144) ∧ Aside0 (Below w.heap.size w wc))
        case first =>
          have H := HC9.out
          clear HC9
          by_cases c13 : t141 = t146
          · rw [if_pos c13] at H
            have c13b0 : (t141 == t146) = true := beq_iff_eq.mpr c13
            have c13b1 : (t141 != t146) = false := bne_eq_false_iff_eq.mpr c13
            clear c13
            (first | rw [c13b0] | (simp only [i64_w, i32_w]; rw [c13b0]) | skip)
            by_cases c14 : t140 = t145
            · rw [if_pos c14] at H
              have c14b0 : (t140 == t145) = true := beq_iff_eq.mpr c14
              have c14b1 : (t140 != t145) = false := bne_eq_false_iff_eq.mpr c14
              clear c14
              replace H := Option.bind_eq_some_iff.mp H
              obtain ⟨t149, A150, H⟩ := H
              replace H : (hauberklaw05_LexReads.j0 k (a0.extract 0 ((ji4) : Int).toNat) t139 t144 (!t149)) = some r := H
              have A15 := Aside0.mk A150
              clear A150
              have H' := Aside0.mk H
              clear H
              obtain ⟨Ao16, co16, eo16⟩ := Kd.R_slice HO143.out
              subst eo16
              obtain ⟨Ao17, co17, eo17⟩ := Kd.R_slice HO148.out
              subst eo17
              go_wp2_with (first | (go_at_call 13; (with_reducible refine (hauberklaw05_same.calls k _ _ t139 _ _ t144 t149 _ ?side1 ?side2 ?side3 ?side4 ?side5 A15.out).mono ?_); (case side1 => (first | ((repeat (first | (with_reducible exact hL) | apply Laid.drewN | apply Laid.drew | apply Laid.alloc)); done) | exact Laid.below hL (by repeat (first | (with_reducible first | exact HB.out | apply below_alloc | apply pw_below_drewN | apply below_drew1) | exact HB.out)))); (case side2 => repeat (first | exact (Kd.R_reads' HO143.out).2.2 | (with_reducible refine Kd.C_alloc ?_ _) | (with_reducible refine Kd.C_drewN ?_ _) | (with_reducible refine Kd.C_drew ?_))); (case side3 => exact (Kd.R_reads' HO143.out).2.1); (case side4 => repeat (first | exact (Kd.R_reads' HO148.out).2.2 | (with_reducible refine Kd.C_alloc ?_ _) | (with_reducible refine Kd.C_drewN ?_ _) | (with_reducible refine Kd.C_drew ?_))); (case side5 => exact (Kd.R_reads' HO148.out).2.1); rintro e w' ⟨rfl, ⟨nd, rfl⟩⟩))
              go_meet
              case rel => exact ⟨_, (!t149), (by first | rfl | (simp; done) | (simp [*]; done)), H', ⟨by first | omega | exact Nat.le_refl _⟩, ⟨by (with_reducible repeat (first | apply Kd.R_alloc | apply Kd.R_drewN | apply Kd.R_drew)); exact Kd.R_mono HO143.out (fun _ hk => hk.2)⟩, ⟨by (with_reducible repeat (first | apply Kd.R_alloc | apply Kd.R_drewN | apply Kd.R_drew)); exact Kd.R_mono HO148.out (fun _ hk => hk.2)⟩, ⟨by repeat (first | (with_reducible first | exact HB.out | apply below_alloc | apply pw_below_drewN | apply below_drew1) | exact HB.out)⟩⟩
            · rw [if_neg c14] at H
              have c14b0 : (t140 == t145) = false := beq_eq_false_iff_ne.mpr c14
              have c14b1 : (t140 != t145) = true := bne_iff_ne.mpr c14
              have H' := Aside0.mk H
              clear H
              go_wp2
              go_meet
              case rel => exact ⟨_, (true), (by first | rfl | (simp; done) | (simp [*]; done)), H', ⟨by first | omega | exact Nat.le_refl _⟩, ⟨by (with_reducible repeat (first | apply Kd.R_alloc | apply Kd.R_drewN | apply Kd.R_drew)); exact Kd.R_mono HO143.out (fun _ hk => hk.2)⟩, ⟨by (with_reducible repeat (first | apply Kd.R_alloc | apply Kd.R_drewN | apply Kd.R_drew)); exact Kd.R_mono HO148.out (fun _ hk => hk.2)⟩, ⟨by repeat (first | (with_reducible first | exact HB.out | apply below_alloc | apply pw_below_drewN | apply below_drew1) | exact HB.out)⟩⟩
          · rw [if_neg c13] at H
            have c13b0 : (t141 == t146) = false := beq_eq_false_iff_ne.mpr c13
            have c13b1 : (t141 != t146) = true := bne_iff_ne.mpr c13
            (first | rw [c13b0] | (simp only [i64_w, i32_w]; rw [c13b0]) | skip)
            have H' := Aside0.mk H
            clear H
            go_wp2
            go_meet
            case rel => exact ⟨_, (true), (by first | rfl | (simp; done) | (simp [*]; done)), H', ⟨by first | omega | exact Nat.le_refl _⟩, ⟨by (with_reducible repeat (first | apply Kd.R_alloc | apply Kd.R_drewN | apply Kd.R_drew)); exact Kd.R_mono HO143.out (fun _ hk => hk.2)⟩, ⟨by (with_reducible repeat (first | apply Kd.R_alloc | apply Kd.R_drewN | apply Kd.R_drew)); exact Kd.R_mono HO148.out (fun _ hk => hk.2)⟩, ⟨by repeat (first | (with_reducible first | exact HB.out | apply below_alloc | apply pw_below_drewN | apply below_drew1) | exact HB.out)⟩⟩
        case rest =>
          clear HC9
          try clear c1
          try clear p2
          try clear c3
          try clear c5
          try clear c5b0
          try clear c5b1
          try clear c6
          try clear c6b0
          try clear c6b1
          try clear c10
          try clear c11
          try clear c12
          try clear c13
          try clear c13b0
          try clear c13b1
          try clear c14
          try clear c14b0
          try clear c14b1
          obtain ⟨kq, x45_8, rfl, HA, HJ8, HO_3, HO_6, HB⟩ := hcut
          cases kq with
          | zero => exact absurd HA.out (by simp [hauberklaw05_LexReads.j0])
          | succ kj8 =>
            have H := HA.out
            clear HA
            simp only [hauberklaw05_LexReads.j0] at H
            by_cases c18 : x45_8 = true
            · subst c18
              have H1 : (some false) = some r := by rw [if_pos rfl] at H; exact H
              clear H
              have H := H1
              clear H1
              obtain rfl := Option.some.inj H
              go_wp2
              go_ret
              exact ⟨by first | rfl | (simp [errW_none, errW_some] <;> rfl) | (simp only [← hji4]; first | rfl | (simp [errW_none, errW_some] <;> rfl)) | (simp [*, errW_none, errW_some] <;> rfl), by repeat (first | (with_reducible first | exact HB.out | apply below_alloc | apply pw_below_drewN | apply below_drew1) | exact HB.out)⟩
            · replace c18 := Bool.eq_false_iff.mpr c18
              subst c18
              have H1 : (hauberklaw05_LexReads.l0 kj8 (a0.extract 0 ((ji4) : Int).toNat) t139 t144 (t139.length : Int) 0) = some r := by rw [if_neg (show ¬ (false = true) by decide)] at H; exact H
              clear H
              have H := H1
              clear H1
              have H' := Aside0.mk H
              clear H
              obtain ⟨Ao19, co19, eo19⟩ := Kd.R_slice HO_3.out
              subst eo19
              go_wp2
              go_loopg [48] kj8 (fun kq v48 w' => ∃ (x3_2 : List (S31)) (x48_2 : Int), v48 = .int .i64 x48_2 ∧ Aside0 (hauberklaw05_LexReads.l0 kq (a0.extract 0 ((ji4) : Int).toNat) x3_2 t144 (t139.length : Int) x48_2 = some r) ∧ Aside0 (kq ≤ kj8) ∧ Aside0 (Kd.R k31 31 w' w.heap.size (fun k_ => some k_ ≠ (v147 : Value).ownBlock) (.slice Ao19 t139.length co19) x3_2) ∧ Aside0 (Kd.R k31 31 w' w.heap.size (fun k_ => some k_ ≠ ((.slice Ao19 t139.length co19) : Value).ownBlock) v147 t144) ∧ Aside0 (Below w.heap.size w w'))
              case atStart => exact ⟨(t139), (0), (by first | rfl | (simp; done) | (simp [*]; done)), H', ⟨Nat.le_refl _⟩, ⟨by (with_reducible repeat (first | apply Kd.R_alloc | apply Kd.R_drewN | apply Kd.R_drew)); exact HO_3.out⟩, ⟨by (with_reducible repeat (first | apply Kd.R_alloc | apply Kd.R_drewN | apply Kd.R_drew)); exact HO_6.out⟩, ⟨by repeat (first | (with_reducible first | exact HB.out | apply below_alloc | apply pw_below_drewN | apply below_drew1) | exact HB.out)⟩⟩
              case round =>
                clear H'
                try clear c1
                try clear p2
                try clear c3
                try clear c5
                try clear c5b0
                try clear c5b1
                try clear c6
                try clear c6b0
                try clear c6b1
                try clear c10
                try clear c11
                try clear c12
                try clear c13
                try clear c13b0
                try clear c13b1
                try clear c14
                try clear c14b0
                try clear c14b1
                try clear c18
                try clear p2
                obtain ⟨x3_2, x48_2, rfl, HA, HK2, HO_3, HO_6, HB⟩ := hrel
                have hl3_2 := (Kd.R_reads' HO_3.out).1
                rw [hl3_2] at HO_3
                (try simp only [hl3_2])
                (try simp only [hl3_2] at HO_6)
                cases gk with
                | zero => exact absurd HA.out (by simp [hauberklaw05_LexReads.l0])
                | succ k2 =>
                  have H := HA.out
                  clear HA
                  simp only [hauberklaw05_LexReads.l0] at H
                  by_cases c20 : x48_2 < (t139.length : Int)
                  · rw [if_pos c20] at H
                    have c20b0 : decide (x48_2 < (t139.length : Int)) = true := decide_eq_true c20
                    clear c20
                    by_cases c21 : 0 ≤ x48_2
                    · rw [if_pos c21] at H
                      have c21b0 : decide (0 ≤ x48_2) = true := decide_eq_true c21
                      clear c21
                      by_cases c22 : x48_2 < (x3_2.length : Int)
                      · rw [if_pos c22] at H
                        have c22b0 : decide (x48_2 < (x3_2.length : Int)) = true := decide_eq_true c22
                        clear c22
                        obtain ⟨y150, hy150⟩ : ∃ y_ : List (S31), y_ = (x3_2.set (x48_2 : Int).toNat (⟨(-1), (rd_T31 x3_2 x48_2).f1, (rd_T31 x3_2 x48_2).f2⟩ : S31)) := ⟨_, rfl⟩
                        replace H : (hauberklaw05_LexReads.l0 k2 (a0.extract 0 ((ji4) : Int).toNat) y150 t144 (t139.length : Int) (wrap64 (x48_2 + 1))) = some r := by first | (rw [hy150]; with_reducible exact H) | (have H2_ := (Option.bind_some _ _).symm.trans H; rw [hy150]; with_reducible exact H2_) | (have H2_ := (Option.bind_some _ _).symm.trans H; with_reducible exact H2_) | with_reducible exact H | (rw [hy150]; exact H) | exact H
                        have Ny150 := Aside0.mk hy150
                        clear hy150
                        have H' := Aside0.mk H
                        clear H
                        have p23 : 0 ≤ (x48_2 : Int) := of_decide_eq_true (by first | (with_reducible assumption) | assumption)
                        have q23 : (x48_2 : Int) < ((x3_2.length : Int) : Int) := of_decide_eq_true (by first | (with_reducible assumption) | assumption)
                        obtain ⟨go23, co23, eo23, gb23, gl23, cl23, HG23⟩ := Kd.R_form HO_3.out (by omega)
                        (first | cases eo23 | (injection eo23 with ea_ en_ ec_; (first | subst ea_ | (injection ea_ with ea_; subst ea_)); subst ec_; clear en_))
                        have GB23 := Aside0.mk gb23
                        have GG23 := Aside0.mk HG23
                        clear gb23 gl23 HG23
                        obtain ⟨ce23, hcl23, hM23, hcc23, hfr23⟩ := Kd.R_elem HO_3.out z31 (x48_2 : Int) p23 q23
                        obtain rfl := k31_openM hM23
                        have hx23_0 : wr.cell? ⟨go23, (x48_2 : Int).toNat * 3, none⟩ = some (.int .i64 ((rd_T31 x3_2 x48_2).f0)) := hcc23 0 _ rfl
                        have hx23_1 : wr.cell? ⟨go23, (x48_2 : Int).toNat * 3 + 1, none⟩ = some (.string ((rd_T31 x3_2 x48_2).f1)) := hcc23 1 _ rfl
                        have hx23_2 : wr.cell? ⟨go23, (x48_2 : Int).toNat * 3 + 2, none⟩ = some (.int .i64 ((rd_T31 x3_2 x48_2).f2)) := hcc23 2 _ rfl
                        have hf23_0 : wr.frozen? ⟨go23, (x48_2 : Int).toNat * 3, none⟩ = false := hfr23 0
                        have hf23_1 : wr.frozen? ⟨go23, (x48_2 : Int).toNat * 3 + 1, none⟩ = false := hfr23 1
                        have hf23_2 : wr.frozen? ⟨go23, (x48_2 : Int).toNat * 3 + 2, none⟩ = false := hfr23 2
                        clear hcl23 hcc23 hfr23 hM23
                        replace p23 := eq_true p23
                        replace q23 := eq_true q23
                        have HX24 := Aside0.mk (show Kd.R k31 31 wr w.heap.size (fun k_ => some k_ ≠ (v147 : Value).ownBlock) (.slice (some ⟨go23, 0, none⟩) x3_2.length co19) x3_2 from (by (with_reducible repeat (first | apply Kd.R_alloc | apply Kd.R_drewN | apply Kd.R_drew)); exact HO_3.out))
                        obtain ⟨ce24, hcl24, hM24, hcc24, hfr24⟩ := Kd.R_elem HX24.out z31 (x48_2 : Int) (of_decide_eq_true (by first | (with_reducible assumption) | assumption)) (by have h_ : (x48_2 : Int) < ((x3_2.length : Int) : Int) := of_decide_eq_true (by first | (with_reducible assumption) | assumption); first | exact h_ | (have e_ := (Kd.R_reads' HO_3.out).1; omega) | simpa using h_)
                        obtain rfl := k31_openM hM24
                        have HP24 := Kd.R_seg HX24.out (x48_2 : Int) (of_decide_eq_true (by first | (with_reducible assumption) | assumption)) (by have h_ : (x48_2 : Int) < ((x3_2.length : Int) : Int) := of_decide_eq_true (by first | (with_reducible assumption) | assumption); first | exact h_ | (have e_ := (Kd.R_reads' HO_3.out).1; omega) | simpa using h_) (seg := [.int .i64 (-1)]) (j := 0) hcl24 hcc24 (show 1 ≤ 3 from by decide) (x' := (⟨(-1), (rd_T31 x3_2 x48_2).f1, (rd_T31 x3_2 x48_2).f2⟩ : S31)) (k31_mkM _ _ _ (⟨(-1), (rd_T31 x3_2 x48_2).f1, (rd_T31 x3_2 x48_2).f2⟩ : S31) ) (fun _ hk => hk)
                        have hx24_0 := hcc24 0 _ rfl
                        (try simp only [show (k31).sz = 3 from rfl, Nat.mul_one, Nat.add_zero] at hx24_0)
                        have hf24_0 := hfr24 0
                        (try simp only [show (k31).sz = 3 from rfl, Nat.mul_one, Nat.add_zero] at hf24_0)
                        clear hcl24 hcc24 hfr24 hM24
                        go_wp2_with (first | ((with_reducible refine gate_store (t := 3) (p := 54) rfl ?_); refine store_event (t := 3) (p := 54) (v := ?vo_w25) (w1 := (wr.setCell ⟨go23, (x48_2 : Int).toNat * 3, none⟩ (.int .i64 (-1)))) ?hg ?ho ?hn ?hr ?_; (case ho => rfl); (case hg => rfl); (case hn => rfl); (case hr => first | (go_simp; done) | (go_simp; rfl)); intro w25 hw; have hg : wr.grownBy w25 (some go23) := (by rw [hw]; exact HP24.2); have hp_ : Kd.R k31 31 w25 w.heap.size (fun k_ => some k_ ≠ (v147 : Value).ownBlock) (.slice (some ⟨go23, 0, none⟩) x3_2.length co19) y150 := (by rw [hw, Ny150.out]; exact HP24.1); clear HP24; have n0_ := Aside0.mk (hp_); have n1_ := Aside0.mk (Kd.R_after (v := (.slice (some ⟨go23, 0, none⟩) x3_2.length co19)) (v1 := (.slice (some ⟨go23, 0, none⟩) x3_2.length co19)) (ok := (fun _ => True)) (by (with_reducible repeat (first | apply Kd.R_alloc | apply Kd.R_drewN | apply Kd.R_drew)); exact Kd.R_mono HO_6.out (fun _ hk => ⟨trivial, hk⟩)) hg (.inl rfl)); have n2_ := Aside0.mk ((by rw [hw]; exact below_set (HB.out) GB23.out : Below w.heap.size w w25)); clear HO_3; clear HO_6; clear HB; have HO_3 := n0_; have HO_6 := n1_; have HB := n2_; clear n0_ n1_ n2_; clear hg hw hp_))
                        (try simp only [← hl3_2])
                        go_roundg k2
                        case measure => have := HJ8.out; have := HK2.out; omega
                        case rel => exact ⟨(y150), (wrap64 (x48_2 + 1)), (by first | rfl | (simp; done) | (simp [*]; done)), H', ⟨by have := HJ8.out; have := HK2.out; omega⟩, ⟨by (try simp only [hl3_2]); (with_reducible repeat (first | apply Kd.R_alloc | apply Kd.R_drewN | apply Kd.R_drew)); exact HO_3.out⟩, ⟨by (try simp only [hl3_2]); (with_reducible repeat (first | apply Kd.R_alloc | apply Kd.R_drewN | apply Kd.R_drew)); exact Kd.R_mono HO_6.out (fun _ hk => hk.2)⟩, ⟨by repeat (first | (with_reducible first | exact HB.out | apply below_alloc | apply pw_below_drewN | apply below_drew1) | exact HB.out)⟩⟩
                      · rw [if_neg c22] at H
                        exact absurd H (by simp)
                    · rw [if_neg c21] at H
                      exact absurd H (by simp)
                  · rw [if_neg c20] at H
                    have c20b0 : decide (x48_2 < (x3_2.length : Int)) = false := decide_eq_false (by rw [← hl3_2]; exact c20)
                    clear c20
                    replace H := Option.bind_eq_some_iff.mp H
                    obtain ⟨⟨t151, t152, t153⟩, A260, H⟩ := H
                    replace H : ((hauberklaw05_same.f k2 t151 t144).bind fun t156 => (some t156)) = some r := H
                    have A26 := Aside0.mk A260
                    clear A260
                    replace H := Option.bind_eq_some_iff.mp H
                    obtain ⟨t156, A270, H⟩ := H
                    replace H : (some t156) = some r := H
                    have A27 := Aside0.mk A270
                    clear A270
                    obtain rfl := Option.some.inj H
                    go_wp2_with (first | ((with_reducible refine gate_callee (f := 11) rfl ?_); refine goesL_ (some 58) rfl rfl Tryd.func11 (by kernel_rfl) rfl #[.string (a0.extract 0 ((ji4) : Int).toNat)] rfl (by (try simp only [List.map_toArray, List.map_cons, List.map_nil]); first | done | (simp only [hji4]; rfl) | rfl | (simp only [List.length_drop, List.length_take]; rfl)) ?_; (with_reducible refine (lex_Lex.calls k2 (a0.extract 0 ((ji4) : Int).toNat) t151 t152 t153 _ ?side1 A26.out).mono ?_); (case side1 => (first | ((repeat (first | (with_reducible exact hL) | apply Laid.drewN | apply Laid.drew | apply Laid.alloc)); done) | exact Laid.below hL (by repeat (first | (with_reducible first | exact HB.out | apply below_alloc | apply pw_below_drewN | apply below_drew1) | exact HB.out)))); rintro e w28 ⟨v154, rfl, ho0, hb⟩; refine ⟨_, rfl, ?_⟩; have n0_ := Aside0.mk (Kd.R_elder' (by (with_reducible repeat (first | apply Kd.R_alloc | apply Kd.R_drewN | apply Kd.R_drew)); exact HO_3.out) (Kd.R_base ho0) hb); have n1_ := Aside0.mk (Kd.R_elder' (by (with_reducible repeat (first | apply Kd.R_alloc | apply Kd.R_drewN | apply Kd.R_drew)); exact HO_6.out) (Kd.R_base ho0) hb); have n2_ := Aside0.mk (Kd.R_lower (Kd.R_new' (Kd.R_new' ho0 (Kd.R_lt (by (with_reducible repeat (first | apply Kd.R_alloc | apply Kd.R_drewN | apply Kd.R_drew)); exact HO_3.out))) (Kd.R_lt (by (with_reducible repeat (first | apply Kd.R_alloc | apply Kd.R_drewN | apply Kd.R_drew)); exact HO_6.out))) (below_size (by repeat (first | (with_reducible first | exact HB.out | apply below_alloc | apply pw_below_drewN | apply below_drew1) | exact HB.out)))); have n3_ := Aside0.mk (below_step (by repeat (first | (with_reducible first | exact HB.out | apply below_alloc | apply pw_below_drewN | apply below_drew1) | exact HB.out)) hb); clear HO_3; clear HO_6; clear HB; have HO_3 := n0_; have HO_6 := n1_; have HO155 := n2_; have HB := n3_; clear n0_ n1_ n2_ n3_; (try clear hb); (try clear hb2); (try clear hk); (try clear hi); (try clear ho0); obtain ⟨Ao29, co29, eo29⟩ := Kd.R_slice HO155.out; subst eo29; obtain ⟨Ao30, co30, eo30⟩ := Kd.R_slice HO_6.out; subst eo30) | ((with_reducible refine gate_callee (f := 13) rfl ?_); refine goesL_ (some 64) rfl rfl Tryd.func13 (by kernel_rfl) rfl #[.slice Ao29 t151.length co29, .slice Ao30 t144.length co30] rfl (by (try simp only [List.map_toArray, List.map_cons, List.map_nil]); first | done | rfl | (simp only [List.length_drop, List.length_take]; rfl)) ?_; (with_reducible refine (hauberklaw05_same.calls k2 _ _ t151 _ _ t144 t156 _ ?side1 ?side2 ?side3 ?side4 ?side5 A27.out).mono ?_); (case side1 => (first | ((repeat (first | (with_reducible exact hL) | apply Laid.drewN | apply Laid.drew | apply Laid.alloc)); done) | exact Laid.below hL (by repeat (first | (with_reducible first | exact HB.out | apply below_alloc | apply pw_below_drewN | apply below_drew1) | exact HB.out)))); (case side2 => repeat (first | exact (Kd.R_reads' HO155.out).2.2 | (with_reducible refine Kd.C_alloc ?_ _) | (with_reducible refine Kd.C_drewN ?_ _) | (with_reducible refine Kd.C_drew ?_))); (case side3 => exact (Kd.R_reads' HO155.out).2.1); (case side4 => repeat (first | exact (Kd.R_reads' HO_6.out).2.2 | (with_reducible refine Kd.C_alloc ?_ _) | (with_reducible refine Kd.C_drewN ?_ _) | (with_reducible refine Kd.C_drew ?_))); (case side5 => exact (Kd.R_reads' HO_6.out).2.1); rintro e w' ⟨rfl, ⟨nd, rfl⟩⟩; refine ⟨_, rfl, ?_⟩))
                    go_ret
                    exact ⟨by first | rfl | (simp [errW_none, errW_some] <;> rfl) | (simp only [← hji4]; first | rfl | (simp [errW_none, errW_some] <;> rfl)) | (simp [*, errW_none, errW_some] <;> rfl), by repeat (first | (with_reducible first | exact HB.out | apply below_alloc | apply pw_below_drewN | apply below_drew1) | exact HB.out)⟩
      · rw [if_neg c6] at H
        exact absurd H (by simp)
    · rw [if_neg c5] at H
      exact absurd H (by simp)
  · replace c3 := Bool.eq_false_iff.mpr c3
    subst c3
    have H1 : (some false) = some r := by rw [if_neg (show ¬ (false = true) by decide)] at H; exact H
    clear H
    have H := H1
    clear H1
    obtain rfl := Option.some.inj H
    go_enter Tryd.func3, Tryd.ntmps3
    go_wp2_with (first | ((with_reducible refine gate_callee (f := 10) rfl ?_); refine goesL_ (some 13) rfl rfl Tryd.func10 (by kernel_rfl) rfl #[] rfl (by (try simp only [List.map_toArray, List.map_cons, List.map_nil]); first | done | rfl | (simp only [List.length_drop, List.length_take]; rfl)) ?_; (with_reducible refine (hauberklaw05_awake.calls k  false _ ?side1 A2.out).mono ?_); (case side1 => (first | ((repeat (first | (with_reducible exact hL) | apply Laid.drewN | apply Laid.drew | apply Laid.alloc)); done) | exact Laid.below hL (by repeat (first | (with_reducible first | exact HB.out | apply below_alloc | apply pw_below_drewN | apply below_drew1) | exact HB.out)))); rintro e w31 ⟨rfl, hb⟩; refine ⟨_, rfl, ?_⟩; have n0_ := Aside0.mk (below_step (by repeat (first | (with_reducible first | exact HB.out | apply below_alloc | apply pw_below_drewN | apply below_drew1) | exact HB.out)) hb); clear HB; have HB := n0_; clear n0_; (try clear hb); (try clear hb2); (try clear hk); (try clear hi)))
    go_ret
    exact ⟨by first | rfl | (simp [errW_none, errW_some] <;> rfl) | (simp [*, errW_none, errW_some] <;> rfl), by repeat (first | (with_reducible first | exact HB.out | apply below_alloc | apply pw_below_drewN | apply below_drew1) | exact HB.out)⟩

/-- THE ONE PURE STATEMENT of hauberklaw05_LexReads: yours. -/
def hauberklaw05_LexReads.Pure : Prop := ∀ (a0 : ByteArray), a0.size ≤ 140737488351232 → ∃ k, hauberklaw05_LexReads.f k a0 = some true
theorem hauberklaw05_LexReads.walk (P : hauberklaw05_LexReads.Pure) (a0 : ByteArray) (w : World) (hL : Laid w) (w0 : a0.size ≤ 140737488351232) :
    Calls Tryd.prog 3 #[.string a0] w fun e w' => e = .returned (.bool true) ∧ Below w.heap.size w w' := by
  obtain ⟨k, h⟩ := P a0 w0
  refine (hauberklaw05_LexReads.calls k a0 true w hL h).mono ?_
  rintro e w' ⟨rfl, hd⟩
  exact ⟨rfl, hd⟩

-- GIVEN: function 15 (hauberkref05_Mean)

/-! ### hauberklaw05_LexMeans: function 4 -/
mutual
def hauberklaw05_LexMeans.j0 : Nat → ByteArray → Bool → Option (Bool)
  | 0, _, _ => none
  | k + 1, x0, x20 => if x20 = true then ((hauberklaw05_awake.f k).bind fun t158 => (some t158)) else ((lex_Mean.f k x0).bind fun bt159 => ((hauberkref05_Mean.f k x0).bind fun bt161 => (if ((bt159.2 == 0) != bt161.2) = true then (hauberklaw05_LexMeans.j1 k x0 true) else (if bt161.2 = true then (if bt159.1 = bt161.1 then (hauberklaw05_LexMeans.j1 k x0 false) else (hauberklaw05_LexMeans.j1 k x0 true)) else (if bt159.2 = 10 then (hauberklaw05_LexMeans.j1 k x0 (bt159.1 != 0)) else (hauberklaw05_LexMeans.j1 k x0 true))))))
def hauberklaw05_LexMeans.j1 : Nat → ByteArray → Bool → Option (Bool)
  | 0, _, _ => none
  | k + 1, x0, x55 => if x55 = true then (some false) else ((lex_Lex.f k x0).bind fun bt163 => (hauberklaw05_LexMeans.l0 k bt163.2.2 bt163.1 (bt163.1.length : Int) 0))
def hauberklaw05_LexMeans.l0 : Nat → Int → List (S31) → Int → Int → Option (Bool)
  | 0, _, _, _, _ => none
  | k + 1, x9, x62, x63, x64 => if x64 < x63 then (if 0 ≤ x64 then (if x64 < (x62.length : Int) then ((lex_Mean.f k ((rd_T31 x62 x64).f1)).bind fun bt170 => (if ((((rd_T31 x62 x64).f0) == 2) != (bt170.2 == 0)) = true then (if x9 = 0 then (some false) else (hauberklaw05_LexMeans.l0 k x9 x62 x63 (wrap64 (x64 + 1)))) else (hauberklaw05_LexMeans.l0 k x9 x62 x63 (wrap64 (x64 + 1))))) else (none)) else (none)) else (some true)
end
def hauberklaw05_LexMeans.f (k : Nat) (a0 : ByteArray) : Option (Bool) := (hauberklaw05_awake.f k).bind fun t157 => (if t157 = true then (hauberklaw05_LexMeans.j0 k a0 (decide ((a0.size : Int) > 200))) else (hauberklaw05_LexMeans.j0 k a0 true))
theorem hauberklaw05_LexMeans.mono_l : ∀ k, (∀ y0 y1, LeO (hauberklaw05_LexMeans.j0 k y0 y1) (hauberklaw05_LexMeans.j0 (k + 1) y0 y1)) ∧ (∀ y0 y1, LeO (hauberklaw05_LexMeans.j1 k y0 y1) (hauberklaw05_LexMeans.j1 (k + 1) y0 y1)) ∧ (∀ y0 y1 y2 y3, LeO (hauberklaw05_LexMeans.l0 k y0 y1 y2 y3) (hauberklaw05_LexMeans.l0 (k + 1) y0 y1 y2 y3))
  | 0 => ⟨fun _ _ r h => by simp [hauberklaw05_LexMeans.j0] at h, fun _ _ r h => by simp [hauberklaw05_LexMeans.j1] at h, fun _ _ _ _ r h => by simp [hauberklaw05_LexMeans.l0] at h⟩
  | k + 1 => by
    obtain ⟨ih0, ih1, ih2⟩ := hauberklaw05_LexMeans.mono_l k
    refine ⟨?_, ?_, ?_⟩
    · intro y0 y1
      unfold hauberklaw05_LexMeans.j0
      repeat' first
      | (with_reducible exact ih0 _ _)
      | (with_reducible exact ih1 _ _)
      | (with_reducible exact ih2 _ _ _ _)
      | (with_reducible exact hauberklaw05_awake.mono _)
      | (with_reducible exact hauberkref05_Mean.mono _ _)
      | (with_reducible exact lex_Lex.mono _ _)
      | (with_reducible exact lex_Mean.mono _ _)
      | (with_reducible exact LeO.refl _)
      | (with_reducible exact LeO.none _)
      | (with_reducible refine LeO.ite ?_ ?_)
      | (with_reducible refine LeO.bind ?_ (fun _ => ?_))
      | exact ih0 _ _
      | exact ih1 _ _
      | exact ih2 _ _ _ _
      | exact hauberklaw05_awake.mono _
      | exact hauberkref05_Mean.mono _ _
      | exact lex_Lex.mono _ _
      | exact lex_Mean.mono _ _
      | exact LeO.none _
      | refine LeO.ite ?_ ?_
      | refine LeO.bind ?_ (fun _ => ?_)
    · intro y0 y1
      unfold hauberklaw05_LexMeans.j1
      repeat' first
      | (with_reducible exact ih0 _ _)
      | (with_reducible exact ih1 _ _)
      | (with_reducible exact ih2 _ _ _ _)
      | (with_reducible exact hauberklaw05_awake.mono _)
      | (with_reducible exact hauberkref05_Mean.mono _ _)
      | (with_reducible exact lex_Lex.mono _ _)
      | (with_reducible exact lex_Mean.mono _ _)
      | (with_reducible exact LeO.refl _)
      | (with_reducible exact LeO.none _)
      | (with_reducible refine LeO.ite ?_ ?_)
      | (with_reducible refine LeO.bind ?_ (fun _ => ?_))
      | exact ih0 _ _
      | exact ih1 _ _
      | exact ih2 _ _ _ _
      | exact hauberklaw05_awake.mono _
      | exact hauberkref05_Mean.mono _ _
      | exact lex_Lex.mono _ _
      | exact lex_Mean.mono _ _
      | exact LeO.none _
      | refine LeO.ite ?_ ?_
      | refine LeO.bind ?_ (fun _ => ?_)
    · intro y0 y1 y2 y3
      unfold hauberklaw05_LexMeans.l0
      repeat' first
      | (with_reducible exact ih0 _ _)
      | (with_reducible exact ih1 _ _)
      | (with_reducible exact ih2 _ _ _ _)
      | (with_reducible exact hauberklaw05_awake.mono _)
      | (with_reducible exact hauberkref05_Mean.mono _ _)
      | (with_reducible exact lex_Lex.mono _ _)
      | (with_reducible exact lex_Mean.mono _ _)
      | (with_reducible exact LeO.refl _)
      | (with_reducible exact LeO.none _)
      | (with_reducible refine LeO.ite ?_ ?_)
      | (with_reducible refine LeO.bind ?_ (fun _ => ?_))
      | exact ih0 _ _
      | exact ih1 _ _
      | exact ih2 _ _ _ _
      | exact hauberklaw05_awake.mono _
      | exact hauberkref05_Mean.mono _ _
      | exact lex_Lex.mono _ _
      | exact lex_Mean.mono _ _
      | exact LeO.none _
      | refine LeO.ite ?_ ?_
      | refine LeO.bind ?_ (fun _ => ?_)
theorem hauberklaw05_LexMeans.mono : ∀ a0 k, LeO (hauberklaw05_LexMeans.f k a0) (hauberklaw05_LexMeans.f (k + 1) a0) := by
  intro a0 k
  obtain ⟨ih0, ih1, ih2⟩ := hauberklaw05_LexMeans.mono_l k
  unfold hauberklaw05_LexMeans.f
  repeat' first
      | (with_reducible exact ih0 _ _)
      | (with_reducible exact ih1 _ _)
      | (with_reducible exact ih2 _ _ _ _)
      | (with_reducible exact hauberklaw05_awake.mono _)
      | (with_reducible exact hauberkref05_Mean.mono _ _)
      | (with_reducible exact lex_Lex.mono _ _)
      | (with_reducible exact lex_Mean.mono _ _)
      | (with_reducible exact LeO.refl _)
      | (with_reducible exact LeO.none _)
      | (with_reducible refine LeO.ite ?_ ?_)
      | (with_reducible refine LeO.bind ?_ (fun _ => ?_))
      | exact ih0 _ _
      | exact ih1 _ _
      | exact ih2 _ _ _ _
      | exact hauberklaw05_awake.mono _
      | exact hauberkref05_Mean.mono _ _
      | exact lex_Lex.mono _ _
      | exact lex_Mean.mono _ _
      | exact LeO.none _
      | refine LeO.ite ?_ ?_
      | refine LeO.bind ?_ (fun _ => ?_)
set_option maxHeartbeats 8000000 in
set_option maxRecDepth 100000 in
theorem hauberklaw05_LexMeans.calls (k : Nat) (a0 : ByteArray) (r : Bool) (w : World) (hL : Laid w) (h : hauberklaw05_LexMeans.f k a0 = some r) :
    Calls Tryd.prog 4 #[.string a0] w fun e w' => e = .returned (.bool r) ∧ Below w.heap.size w w' := by
  have hu31 := Tryd.underlying31
  have HB := Aside0.mk (Below.refl w.heap.size w)
  have H : ((hauberklaw05_awake.f k).bind fun t157 => (if t157 = true then (hauberklaw05_LexMeans.j0 k a0 (decide ((a0.size : Int) > 200))) else (hauberklaw05_LexMeans.j0 k a0 true))) = some r := h
  clear h
  have HC2 := Aside0.mk H
  clear H
  go_enter Tryd.func4, Tryd.ntmps4
  go_upto_region 1 with (fail)
  go_cut [20] (fun v20 wc => ∃ (kq : Nat) (x20_1 : Bool), v20 = .bool x20_1 ∧ Aside0 (hauberklaw05_LexMeans.j0 kq a0 x20_1 = some r) ∧ Aside0 (kq ≤ k) ∧ Aside0 (Below w.heap.size w wc))
  case first =>
    have H := HC2.out
    clear HC2
    replace H := Option.bind_eq_some_iff.mp H
    obtain ⟨t157, A30, H⟩ := H
    replace H : (if t157 = true then (hauberklaw05_LexMeans.j0 k a0 (decide ((a0.size : Int) > 200))) else (hauberklaw05_LexMeans.j0 k a0 true)) = some r := H
    have A3 := Aside0.mk A30
    clear A30
    by_cases c4 : t157 = true
    · subst c4
      have H1 : (hauberklaw05_LexMeans.j0 k a0 (decide ((a0.size : Int) > 200))) = some r := by rw [if_pos rfl] at H; exact H
      clear H
      have H := H1
      clear H1
      have H' := Aside0.mk H
      clear H
      go_wp2_with (first | ((with_reducible refine gate_callee (f := 10) rfl ?_); refine goesL_ (some 14) rfl rfl Tryd.func10 (by kernel_rfl) rfl #[] rfl (by (try simp only [List.map_toArray, List.map_cons, List.map_nil]); first | done | rfl | (simp only [List.length_drop, List.length_take]; rfl)) ?_; (with_reducible refine (hauberklaw05_awake.calls k  true _ ?side1 A3.out).mono ?_); (case side1 => (first | ((repeat (first | (with_reducible exact hL) | apply Laid.drewN | apply Laid.drew | apply Laid.alloc)); done) | exact Laid.below hL (by repeat (first | (with_reducible first | exact HB.out | apply below_alloc | apply pw_below_drewN | apply below_drew1) | exact HB.out)))); rintro e w5 ⟨rfl, hb⟩; refine ⟨_, rfl, ?_⟩; have n0_ := Aside0.mk (below_step (by repeat (first | (with_reducible first | exact HB.out | apply below_alloc | apply pw_below_drewN | apply below_drew1) | exact HB.out)) hb); clear HB; have HB := n0_; clear n0_; (try clear hb); (try clear hb2); (try clear hk); (try clear hi)))
      go_meet
      case rel => exact ⟨_, (decide ((a0.size : Int) > 200)), (by first | rfl | (simp; done) | (simp [*]; done)), H', ⟨by first | omega | exact Nat.le_refl _⟩, ⟨by repeat (first | (with_reducible first | exact HB.out | apply below_alloc | apply pw_below_drewN | apply below_drew1) | exact HB.out)⟩⟩
    · replace c4 := Bool.eq_false_iff.mpr c4
      subst c4
      have H1 : (hauberklaw05_LexMeans.j0 k a0 true) = some r := by rw [if_neg (show ¬ (false = true) by decide)] at H; exact H
      clear H
      have H := H1
      clear H1
      have H' := Aside0.mk H
      clear H
      go_wp2_with (first | ((with_reducible refine gate_callee (f := 10) rfl ?_); refine goesL_ (some 14) rfl rfl Tryd.func10 (by kernel_rfl) rfl #[] rfl (by (try simp only [List.map_toArray, List.map_cons, List.map_nil]); first | done | rfl | (simp only [List.length_drop, List.length_take]; rfl)) ?_; (with_reducible refine (hauberklaw05_awake.calls k  false _ ?side1 A3.out).mono ?_); (case side1 => (first | ((repeat (first | (with_reducible exact hL) | apply Laid.drewN | apply Laid.drew | apply Laid.alloc)); done) | exact Laid.below hL (by repeat (first | (with_reducible first | exact HB.out | apply below_alloc | apply pw_below_drewN | apply below_drew1) | exact HB.out)))); rintro e w6 ⟨rfl, hb⟩; refine ⟨_, rfl, ?_⟩; have n0_ := Aside0.mk (below_step (by repeat (first | (with_reducible first | exact HB.out | apply below_alloc | apply pw_below_drewN | apply below_drew1) | exact HB.out)) hb); clear HB; have HB := n0_; clear n0_; (try clear hb); (try clear hb2); (try clear hk); (try clear hi)))
      go_meet
      case rel => exact ⟨_, (true), (by first | rfl | (simp; done) | (simp [*]; done)), H', ⟨by first | omega | exact Nat.le_refl _⟩, ⟨by repeat (first | (with_reducible first | exact HB.out | apply below_alloc | apply pw_below_drewN | apply below_drew1) | exact HB.out)⟩⟩
  case rest =>
    clear HC2
    try clear c1
    try clear p2
    try clear c4
    obtain ⟨kq, x20_1, rfl, HA, HJ1, HB⟩ := hcut
    cases kq with
    | zero => exact absurd HA.out (by simp [hauberklaw05_LexMeans.j0])
    | succ kj1 =>
      have H := HA.out
      clear HA
      simp only [hauberklaw05_LexMeans.j0] at H
      by_cases c7 : x20_1 = true
      · subst c7
        have H1 : ((hauberklaw05_awake.f kj1).bind fun t158 => (some t158)) = some r := by rw [if_pos rfl] at H; exact H
        clear H
        have H := H1
        clear H1
        replace H := Option.bind_eq_some_iff.mp H
        obtain ⟨t158, A80, H⟩ := H
        replace H : (some t158) = some r := H
        have A8 := Aside0.mk A80
        clear A80
        obtain rfl := Option.some.inj H
        go_wp2_with (first | ((with_reducible refine gate_callee (f := 10) rfl ?_); refine goesL_ (some 21) rfl rfl Tryd.func10 (by kernel_rfl) rfl #[] rfl (by (try simp only [List.map_toArray, List.map_cons, List.map_nil]); first | done | rfl | (simp only [List.length_drop, List.length_take]; rfl)) ?_; (with_reducible refine (hauberklaw05_awake.calls kj1  t158 _ ?side1 A8.out).mono ?_); (case side1 => (first | ((repeat (first | (with_reducible exact hL) | apply Laid.drewN | apply Laid.drew | apply Laid.alloc)); done) | exact Laid.below hL (by repeat (first | (with_reducible first | exact HB.out | apply below_alloc | apply pw_below_drewN | apply below_drew1) | exact HB.out)))); rintro e w9 ⟨rfl, hb⟩; refine ⟨_, rfl, ?_⟩; have n0_ := Aside0.mk (below_step (by repeat (first | (with_reducible first | exact HB.out | apply below_alloc | apply pw_below_drewN | apply below_drew1) | exact HB.out)) hb); clear HB; have HB := n0_; clear n0_; (try clear hb); (try clear hb2); (try clear hk); (try clear hi)))
        go_ret
        exact ⟨by first | rfl | (simp [errW_none, errW_some] <;> rfl) | (simp [*, errW_none, errW_some] <;> rfl), by repeat (first | (with_reducible first | exact HB.out | apply below_alloc | apply pw_below_drewN | apply below_drew1) | exact HB.out)⟩
      · replace c7 := Bool.eq_false_iff.mpr c7
        subst c7
        have H1 : ((lex_Mean.f kj1 a0).bind fun bt159 => ((hauberkref05_Mean.f kj1 a0).bind fun bt161 => (if ((bt159.2 == 0) != bt161.2) = true then (hauberklaw05_LexMeans.j1 kj1 a0 true) else (if bt161.2 = true then (if bt159.1 = bt161.1 then (hauberklaw05_LexMeans.j1 kj1 a0 false) else (hauberklaw05_LexMeans.j1 kj1 a0 true)) else (if bt159.2 = 10 then (hauberklaw05_LexMeans.j1 kj1 a0 (bt159.1 != 0)) else (hauberklaw05_LexMeans.j1 kj1 a0 true)))))) = some r := by rw [if_neg (show ¬ (false = true) by decide)] at H; exact H
        clear H
        have H := H1
        clear H1
        replace H := Option.bind_eq_some_iff.mp H
        obtain ⟨⟨t159, t160⟩, A100, H⟩ := H
        replace H : ((hauberkref05_Mean.f kj1 a0).bind fun bt161 => (if ((t160 == 0) != bt161.2) = true then (hauberklaw05_LexMeans.j1 kj1 a0 true) else (if bt161.2 = true then (if t159 = bt161.1 then (hauberklaw05_LexMeans.j1 kj1 a0 false) else (hauberklaw05_LexMeans.j1 kj1 a0 true)) else (if t160 = 10 then (hauberklaw05_LexMeans.j1 kj1 a0 (t159 != 0)) else (hauberklaw05_LexMeans.j1 kj1 a0 true))))) = some r := H
        have A10 := Aside0.mk A100
        clear A100
        replace H := Option.bind_eq_some_iff.mp H
        obtain ⟨⟨t161, t162⟩, A110, H⟩ := H
        replace H : (if ((t160 == 0) != t162) = true then (hauberklaw05_LexMeans.j1 kj1 a0 true) else (if t162 = true then (if t159 = t161 then (hauberklaw05_LexMeans.j1 kj1 a0 false) else (hauberklaw05_LexMeans.j1 kj1 a0 true)) else (if t160 = 10 then (hauberklaw05_LexMeans.j1 kj1 a0 (t159 != 0)) else (hauberklaw05_LexMeans.j1 kj1 a0 true)))) = some r := H
        have A11 := Aside0.mk A110
        clear A110
        have HC12 := Aside0.mk H
        clear H
        go_upto_region 5 with (first | ((with_reducible refine gate_callee (f := 14) rfl ?_); refine goesL_ (some 24) rfl rfl Tryd.func14 (by kernel_rfl) rfl #[.string a0] rfl (by (try simp only [List.map_toArray, List.map_cons, List.map_nil]); first | done | rfl | (simp only [List.length_drop, List.length_take]; rfl)) ?_; (with_reducible refine (lex_Mean.calls kj1 a0 t159 t160 _ ?side1 A10.out).mono ?_); (case side1 => (first | ((repeat (first | (with_reducible exact hL) | apply Laid.drewN | apply Laid.drew | apply Laid.alloc)); done) | exact Laid.below hL (by repeat (first | (with_reducible first | exact HB.out | apply below_alloc | apply pw_below_drewN | apply below_drew1) | exact HB.out)))); rintro e w13 ⟨rfl, hb⟩; refine ⟨_, rfl, ?_⟩; have n0_ := Aside0.mk (below_step (by repeat (first | (with_reducible first | exact HB.out | apply below_alloc | apply pw_below_drewN | apply below_drew1) | exact HB.out)) hb); clear HB; have HB := n0_; clear n0_; (try clear hb); (try clear hb2); (try clear hk); (try clear hi)) | ((with_reducible refine gate_callee (f := 15) rfl ?_); refine goesL_ (some 29) rfl rfl Tryd.func15 (by kernel_rfl) rfl #[.string a0] rfl (by (try simp only [List.map_toArray, List.map_cons, List.map_nil]); first | done | rfl | (simp only [List.length_drop, List.length_take]; rfl)) ?_; (with_reducible refine (hauberkref05_Mean.calls kj1 a0 t161 t162 _ ?side1 A11.out).mono ?_); (case side1 => (first | ((repeat (first | (with_reducible exact hL) | apply Laid.drewN | apply Laid.drew | apply Laid.alloc)); done) | exact Laid.below hL (by repeat (first | (with_reducible first | exact HB.out | apply below_alloc | apply pw_below_drewN | apply below_drew1) | exact HB.out)))); rintro e w' ⟨rfl, ⟨nd, rfl⟩⟩; refine ⟨_, rfl, ?_⟩))
        (try simp only [Act.put, List.setIfInBounds_toArray, List.set_cons_zero, List.set_cons_succ])
        go_cut [55] (fun v55 wc => ∃ (kq : Nat) (x55_11 : Bool), v55 = .bool x55_11 ∧ Aside0 (hauberklaw05_LexMeans.j1 kq a0 x55_11 = some r) ∧ Aside0 (kq ≤ kj1) ∧ Aside0 (Below w.heap.size w wc))
        case first =>
          have H := HC12.out
          clear HC12
          by_cases c14 : ((t160 == 0) != t162) = true
          · rw [if_pos c14] at H
            have c14b0 : ((t160 == 0) != t162) = true := c14
            (try (have c14b1 : decide ((t160 == 0) = t162) = false := by simpa using c14))
            (try (have c14b2 : ((t160 == 0) == t162) = false := by simpa using c14))
            (try (have c14b3 : ¬ ((t160 == 0) = t162) := by simpa using c14))
            clear c14
            (first | rw [c14b0] | (simp only [i64_w, i32_w]; rw [c14b0]) | skip)
            have H' := Aside0.mk H
            clear H
            go_wp2
            go_meet
            case rel => exact ⟨_, (true), (by first | rfl | (simp; done) | (simp [*]; done)), H', ⟨by have := HJ1.out; first | omega | exact Nat.le_refl _⟩, ⟨by repeat (first | (with_reducible first | exact HB.out | apply below_alloc | apply pw_below_drewN | apply below_drew1) | exact HB.out)⟩⟩
          · rw [if_neg c14] at H
            have c14b0 : ((t160 == 0) != t162) = false := by simpa using c14
            (try (have c14b1 : decide ((t160 == 0) = t162) = true := by simpa using c14))
            (try (have c14b2 : ((t160 == 0) == t162) = true := by simpa using c14))
            clear c14
            (first | rw [c14b0] | (simp only [i64_w, i32_w]; rw [c14b0]) | skip)
            by_cases c15 : t162 = true
            · subst c15
              have H1 : (if t159 = t161 then (hauberklaw05_LexMeans.j1 kj1 a0 false) else (hauberklaw05_LexMeans.j1 kj1 a0 true)) = some r := by rw [if_pos rfl] at H; exact H
              clear H
              have H := H1
              clear H1
              by_cases c16 : t159 = t161
              · rw [if_pos c16] at H
                have c16b0 : (t159 == t161) = true := beq_iff_eq.mpr c16
                have c16b1 : (t159 != t161) = false := bne_eq_false_iff_eq.mpr c16
                clear c16
                have H' := Aside0.mk H
                clear H
                go_wp2
                go_meet
                case rel => exact ⟨_, (false), (by first | rfl | (simp; done) | (simp [*]; done)), H', ⟨by have := HJ1.out; first | omega | exact Nat.le_refl _⟩, ⟨by repeat (first | (with_reducible first | exact HB.out | apply below_alloc | apply pw_below_drewN | apply below_drew1) | exact HB.out)⟩⟩
              · rw [if_neg c16] at H
                have c16b0 : (t159 == t161) = false := beq_eq_false_iff_ne.mpr c16
                have c16b1 : (t159 != t161) = true := bne_iff_ne.mpr c16
                have H' := Aside0.mk H
                clear H
                go_wp2
                go_meet
                case rel => exact ⟨_, (true), (by first | rfl | (simp; done) | (simp [*]; done)), H', ⟨by have := HJ1.out; first | omega | exact Nat.le_refl _⟩, ⟨by repeat (first | (with_reducible first | exact HB.out | apply below_alloc | apply pw_below_drewN | apply below_drew1) | exact HB.out)⟩⟩
            · replace c15 := Bool.eq_false_iff.mpr c15
              subst c15
              have H1 : (if t160 = 10 then (hauberklaw05_LexMeans.j1 kj1 a0 (t159 != 0)) else (hauberklaw05_LexMeans.j1 kj1 a0 true)) = some r := by rw [if_neg (show ¬ (false = true) by decide)] at H; exact H
              clear H
              have H := H1
              clear H1
              by_cases c17 : t160 = 10
              · rw [if_pos c17] at H
                have c17b0 : (t160 == 10) = true := beq_iff_eq.mpr c17
                have c17b1 : (t160 != 10) = false := bne_eq_false_iff_eq.mpr c17
                clear c17
                have H' := Aside0.mk H
                clear H
                go_wp2
                go_meet
                case rel => exact ⟨_, ((t159 != 0)), (by first | rfl | (simp; done) | (simp [*]; done)), H', ⟨by have := HJ1.out; first | omega | exact Nat.le_refl _⟩, ⟨by repeat (first | (with_reducible first | exact HB.out | apply below_alloc | apply pw_below_drewN | apply below_drew1) | exact HB.out)⟩⟩
              · rw [if_neg c17] at H
                have c17b0 : (t160 == 10) = false := beq_eq_false_iff_ne.mpr c17
                have c17b1 : (t160 != 10) = true := bne_iff_ne.mpr c17
                have H' := Aside0.mk H
                clear H
                go_wp2
                go_meet
                case rel => exact ⟨_, (true), (by first | rfl | (simp; done) | (simp [*]; done)), H', ⟨by have := HJ1.out; first | omega | exact Nat.le_refl _⟩, ⟨by repeat (first | (with_reducible first | exact HB.out | apply below_alloc | apply pw_below_drewN | apply below_drew1) | exact HB.out)⟩⟩
        case rest =>
          clear HC12
          try clear c1
          try clear p2
          try clear c4
          try clear c7
          try clear c10
          try clear c14
          try clear c14b0
          try clear c14b1
          try clear c14b2
          try clear c15
          try clear c16
          try clear c16b0
          try clear c16b1
          try clear c17
          try clear c17b0
          try clear c17b1
          try clear p2
          obtain ⟨kq, x55_11, rfl, HA, HJ11, HB⟩ := hcut
          cases kq with
          | zero => exact absurd HA.out (by simp [hauberklaw05_LexMeans.j1])
          | succ kj11 =>
            have H := HA.out
            clear HA
            simp only [hauberklaw05_LexMeans.j1] at H
            by_cases c18 : x55_11 = true
            · subst c18
              have H1 : (some false) = some r := by rw [if_pos rfl] at H; exact H
              clear H
              have H := H1
              clear H1
              obtain rfl := Option.some.inj H
              go_wp2
              go_ret
              exact ⟨by first | rfl | (simp [errW_none, errW_some] <;> rfl) | (simp [*, errW_none, errW_some] <;> rfl), by repeat (first | (with_reducible first | exact HB.out | apply below_alloc | apply pw_below_drewN | apply below_drew1) | exact HB.out)⟩
            · replace c18 := Bool.eq_false_iff.mpr c18
              subst c18
              have H1 : ((lex_Lex.f kj11 a0).bind fun bt163 => (hauberklaw05_LexMeans.l0 kj11 bt163.2.2 bt163.1 (bt163.1.length : Int) 0)) = some r := by rw [if_neg (show ¬ (false = true) by decide)] at H; exact H
              clear H
              have H := H1
              clear H1
              replace H := Option.bind_eq_some_iff.mp H
              obtain ⟨⟨t163, t164, t165⟩, A190, H⟩ := H
              replace H : (hauberklaw05_LexMeans.l0 kj11 t165 t163 (t163.length : Int) 0) = some r := H
              have A19 := Aside0.mk A190
              clear A190
              have H' := Aside0.mk H
              clear H
              go_wp2_with (first | ((with_reducible refine gate_callee (f := 11) rfl ?_); refine goesL_ (some 58) rfl rfl Tryd.func11 (by kernel_rfl) rfl #[.string a0] rfl (by (try simp only [List.map_toArray, List.map_cons, List.map_nil]); first | done | rfl | (simp only [List.length_drop, List.length_take]; rfl)) ?_; (with_reducible refine (lex_Lex.calls kj11 a0 t163 t164 t165 _ ?side1 A19.out).mono ?_); (case side1 => (first | ((repeat (first | (with_reducible exact hL) | apply Laid.drewN | apply Laid.drew | apply Laid.alloc)); done) | exact Laid.below hL (by repeat (first | (with_reducible first | exact HB.out | apply below_alloc | apply pw_below_drewN | apply below_drew1) | exact HB.out)))); rintro e w20 ⟨v166, rfl, ho0, hb⟩; refine ⟨_, rfl, ?_⟩; have n0_ := Aside0.mk (Kd.R_lower ho0 (below_size (by repeat (first | (with_reducible first | exact HB.out | apply below_alloc | apply pw_below_drewN | apply below_drew1) | exact HB.out)))); have n1_ := Aside0.mk (below_step (by repeat (first | (with_reducible first | exact HB.out | apply below_alloc | apply pw_below_drewN | apply below_drew1) | exact HB.out)) hb); clear HB; have HO167 := n0_; have HB := n1_; clear n0_ n1_; (try clear hb); (try clear hb2); (try clear hk); (try clear hi); (try clear ho0); obtain ⟨Ao21, co21, eo21⟩ := Kd.R_slice HO167.out; subst eo21))
              go_loopg [64] kj11 (fun kq v64 w' => ∃ (x64_3 : Int), v64 = .int .i64 x64_3 ∧ Aside0 (hauberklaw05_LexMeans.l0 kq t165 t163 (t163.length : Int) x64_3 = some r) ∧ Aside0 (kq ≤ kj11) ∧ Aside0 (Kd.R k31 31 w' w.heap.size (fun _ => True) (.slice Ao21 t163.length co21) t163) ∧ Aside0 (Below w.heap.size w w'))
              case atStart => exact ⟨(0), (by first | rfl | (simp; done) | (simp [*]; done)), H', ⟨Nat.le_refl _⟩, ⟨by (with_reducible repeat (first | apply Kd.R_alloc | apply Kd.R_drewN | apply Kd.R_drew)); exact HO167.out⟩, ⟨by repeat (first | (with_reducible first | exact HB.out | apply below_alloc | apply pw_below_drewN | apply below_drew1) | exact HB.out)⟩⟩
              case round =>
                clear H'
                try clear c1
                try clear p2
                try clear c4
                try clear c7
                try clear c10
                try clear c11
                try clear c14
                try clear c14b0
                try clear c14b1
                try clear c14b2
                try clear c15
                try clear c16
                try clear c16b0
                try clear c16b1
                try clear c17
                try clear c17b0
                try clear c17b1
                try clear c18
                try clear p2
                obtain ⟨x64_3, rfl, HA, HK3, HO_62, HB⟩ := hrel
                cases gk with
                | zero => exact absurd HA.out (by simp [hauberklaw05_LexMeans.l0])
                | succ k3 =>
                  have H := HA.out
                  clear HA
                  simp only [hauberklaw05_LexMeans.l0] at H
                  by_cases c22 : x64_3 < (t163.length : Int)
                  · rw [if_pos c22] at H
                    have c22b0 : decide (x64_3 < (t163.length : Int)) = true := decide_eq_true c22
                    clear c22
                    by_cases c23 : 0 ≤ x64_3
                    · rw [if_pos c23] at H
                      have c23b0 : decide (0 ≤ x64_3) = true := decide_eq_true c23
                      clear c23
                      by_cases c24 : x64_3 < (t163.length : Int)
                      · rw [if_pos c24] at H
                        have c24b0 : decide (x64_3 < (t163.length : Int)) = true := decide_eq_true c24
                        clear c24
                        replace H := Option.bind_eq_some_iff.mp H
                        obtain ⟨⟨t170, t171⟩, A250, H⟩ := H
                        replace H : (if ((((rd_T31 t163 x64_3).f0) == 2) != (t171 == 0)) = true then (if t165 = 0 then (some false) else (hauberklaw05_LexMeans.l0 k3 t165 t163 (t163.length : Int) (wrap64 (x64_3 + 1)))) else (hauberklaw05_LexMeans.l0 k3 t165 t163 (t163.length : Int) (wrap64 (x64_3 + 1)))) = some r := H
                        have A25 := Aside0.mk A250
                        clear A250
                        by_cases c26 : ((((rd_T31 t163 x64_3).f0) == 2) != (t171 == 0)) = true
                        · rw [if_pos c26] at H
                          have c26b0 : ((((rd_T31 t163 x64_3).f0) == 2) != (t171 == 0)) = true := c26
                          (try (have c26b1 : decide ((((rd_T31 t163 x64_3).f0) == 2) = (t171 == 0)) = false := by simpa using c26))
                          (try (have c26b2 : ((((rd_T31 t163 x64_3).f0) == 2) == (t171 == 0)) = false := by simpa using c26))
                          (try (have c26b3 : ¬ ((((rd_T31 t163 x64_3).f0) == 2) = (t171 == 0)) := by simpa using c26))
                          clear c26
                          by_cases c27 : t165 = 0
                          · rw [if_pos c27] at H
                            have c27b0 : (t165 == 0) = true := beq_iff_eq.mpr c27
                            have c27b1 : (t165 != 0) = false := bne_eq_false_iff_eq.mpr c27
                            clear c27
                            obtain rfl := Option.some.inj H
                            have p168 : 0 ≤ (x64_3 : Int) := of_decide_eq_true (by first | (with_reducible assumption) | assumption)
                            have q168 : x64_3 < (t163.length : Int) := of_decide_eq_true (by first | (with_reducible assumption) | assumption)
                            obtain ⟨ad168, e168, hx168_0, hx168_1, hx168_2⟩ := at_T31 (Kd.R_reads' HO_62.out).2.2 x64_3 p168 q168
                            cases e168
                            replace p168 := eq_true p168
                            replace q168 := eq_true q168
                            go_wp2_with (first | ((with_reducible refine gate_dst (N := 11) rfl ?_); (try (refine gate_guard (by rfl) ?_; dsimp only)); refine box_event ?hg (N := 11) ?hd (cs := #[.int .i64 0, .string (⟨#[]⟩ : ByteArray), .int .i64 0]) (t := 31) ?hr ?_; (case hd => rfl); (case hg => rfl); (case hr => first | (go_simp; done) | (go_simp; rfl)); intro gb169 hg w28 hbox hb; have n0_ := Aside0.mk (Kd.R_below (Kd.R_elderB (by (with_reducible repeat (first | apply Kd.R_alloc | apply Kd.R_drewN | apply Kd.R_drew)); exact HO_62.out) gb169 (Nat.le_of_eq hg.symm)) hb); have n1_ := Aside0.mk (below_step (by repeat (first | (with_reducible first | exact HB.out | apply below_alloc | apply pw_below_drewN | apply below_drew1) | exact HB.out)) hb); have n2_ := Aside0.mk (hbox); have n3_ := Aside0.mk ((by rw [hg]; exact (below_size (by repeat (first | (with_reducible first | exact HB.out | apply below_alloc | apply pw_below_drewN | apply below_drew1) | exact HB.out))) : w.heap.size ≤ gb169)); have n4_ := Aside0.mk ((by rw [hg]; exact (below_size (by repeat (first | (with_reducible first | exact HB.out | apply below_alloc | apply pw_below_drewN | apply below_drew1) | exact HB.out))) : w.heap.size ≤ gb169)); clear HO_62; clear HB; have HO_62 := n0_; have HB := n1_; have BK169 := n2_; have GW169 := n3_; have GE169 := n4_; clear n0_ n1_ n2_ n3_ n4_; clear hb hbox hg; have hcz29_0 : w28.cell? ⟨gb169, 0, none⟩ = some (.int .i64 0) := (blk_cell BK169.out 0).trans rfl; have hcz29_1 : w28.cell? ⟨gb169, 1, none⟩ = some (.string (⟨#[]⟩ : ByteArray)) := (blk_cell BK169.out 1).trans rfl; have hcz29_2 : w28.cell? ⟨gb169, 2, none⟩ = some (.int .i64 0) := (blk_cell BK169.out 2).trans rfl; have hfz29_0 := blk_frozen BK169.out 0; have hfz29_1 := blk_frozen BK169.out 1; have hfz29_2 := blk_frozen BK169.out 2) | ((with_reducible refine gate_callee (f := 14) rfl ?_); refine goesL_ (some 71) rfl rfl Tryd.func14 (by kernel_rfl) rfl #[.string ((rd_T31 t163 x64_3).f1)] rfl (by (try simp only [List.map_toArray, List.map_cons, List.map_nil]); first | done | rfl | (simp only [List.length_drop, List.length_take]; rfl)) ?_; (with_reducible refine (lex_Mean.calls k3 ((rd_T31 t163 x64_3).f1) t170 t171 _ ?side1 A25.out).mono ?_); (case side1 => (first | ((repeat (first | (with_reducible exact hL) | apply Laid.drewN | apply Laid.drew | apply Laid.alloc)); done) | exact Laid.below hL (by repeat (first | (with_reducible first | exact HB.out | apply below_alloc | apply pw_below_drewN | apply below_drew1 | refine below_set ?_ GE169.out) | exact HB.out)))); rintro e w30 ⟨rfl, hb⟩; refine ⟨_, rfl, ?_⟩; have n0_ := Aside0.mk (Kd.R_below (by (with_reducible repeat (first | apply Kd.R_alloc | apply Kd.R_drewN | apply Kd.R_drew)); exact (Kd.R_mono (Kd.R_far (p := ⟨gb169, 2, none⟩) (Kd.R_far (p := ⟨gb169, 1, none⟩) (Kd.R_far (p := ⟨gb169, 0, none⟩) (Kd.R_mono HO_62.out (fun k_ hk => (⟨hk, hk.2⟩ : _ ∧ k_ ≠ gb169))) (fun _ hk => hk.2) (.int .i64 ((rd_T31 t163 x64_3).f0))) (fun _ hk => hk.2) (.string ((rd_T31 t163 x64_3).f1))) (fun _ hk => hk.2) (.int .i64 ((rd_T31 t163 x64_3).f2))) (fun _ h_ => h_.1))) hb); have n1_ := Aside0.mk (blk_below (g := gb169) (o := .cells #[.int .i64 ((rd_T31 t163 x64_3).f0), .string ((rd_T31 t163 x64_3).f1), .int .i64 ((rd_T31 t163 x64_3).f2)] 31 (0, 0)) (by (with_reducible repeat (first | refine blk_drewN ?_ _ | refine blk_drew ?_ | refine blk_alloc ?_ _)); refine blk_put (cs := #[.int .i64 ((rd_T31 t163 x64_3).f0), .string ((rd_T31 t163 x64_3).f1), .int .i64 0]) ?_ 2 _ rfl; (with_reducible repeat (first | refine blk_drewN ?_ _ | refine blk_drew ?_ | refine blk_alloc ?_ _)); refine blk_put (cs := #[.int .i64 ((rd_T31 t163 x64_3).f0), .string (⟨#[]⟩ : ByteArray), .int .i64 0]) ?_ 1 _ rfl; (with_reducible repeat (first | refine blk_drewN ?_ _ | refine blk_drew ?_ | refine blk_alloc ?_ _)); refine blk_put (cs := #[.int .i64 0, .string (⟨#[]⟩ : ByteArray), .int .i64 0]) ?_ 0 _ rfl; (with_reducible repeat (first | refine blk_drewN ?_ _ | refine blk_drew ?_ | refine blk_alloc ?_ _)); exact BK169.out) hb); have n2_ := Aside0.mk (below_step (by repeat (first | (with_reducible first | exact HB.out | apply below_alloc | apply pw_below_drewN | apply below_drew1 | refine below_set ?_ GE169.out) | exact HB.out)) hb); clear HO_62; clear BK169; clear HB; have HO_62 := n0_; have BK169 := n1_; have HB := n2_; clear n0_ n1_ n2_; (try clear hb); (try clear hb2); (try clear hk); (try clear hi); have hcz31_0 : w30.cell? ⟨gb169, 0, none⟩ = some (.int .i64 ((rd_T31 t163 x64_3).f0)) := (blk_cell BK169.out 0).trans rfl; have hcz31_1 : w30.cell? ⟨gb169, 1, none⟩ = some (.string ((rd_T31 t163 x64_3).f1)) := (blk_cell BK169.out 1).trans rfl; have hcz31_2 : w30.cell? ⟨gb169, 2, none⟩ = some (.int .i64 ((rd_T31 t163 x64_3).f2)) := (blk_cell BK169.out 2).trans rfl; have hfz31_0 := blk_frozen BK169.out 0; have hfz31_1 := blk_frozen BK169.out 1; have hfz31_2 := blk_frozen BK169.out 2))
                            go_ret
                            exact ⟨by first | rfl | (simp [errW_none, errW_some] <;> rfl) | (simp [*, errW_none, errW_some] <;> rfl), by repeat (first | (with_reducible first | exact HB.out | apply below_alloc | apply pw_below_drewN | apply below_drew1 | refine below_set ?_ GE169.out) | exact HB.out)⟩
                          · rw [if_neg c27] at H
                            have c27b0 : (t165 == 0) = false := beq_eq_false_iff_ne.mpr c27
                            have c27b1 : (t165 != 0) = true := bne_iff_ne.mpr c27
                            have H' := Aside0.mk H
                            clear H
                            have p168 : 0 ≤ (x64_3 : Int) := of_decide_eq_true (by first | (with_reducible assumption) | assumption)
                            have q168 : x64_3 < (t163.length : Int) := of_decide_eq_true (by first | (with_reducible assumption) | assumption)
                            obtain ⟨ad168, e168, hx168_0, hx168_1, hx168_2⟩ := at_T31 (Kd.R_reads' HO_62.out).2.2 x64_3 p168 q168
                            cases e168
                            replace p168 := eq_true p168
                            replace q168 := eq_true q168
                            go_wp2_with (first | ((with_reducible refine gate_dst (N := 11) rfl ?_); (try (refine gate_guard (by rfl) ?_; dsimp only)); refine box_event ?hg (N := 11) ?hd (cs := #[.int .i64 0, .string (⟨#[]⟩ : ByteArray), .int .i64 0]) (t := 31) ?hr ?_; (case hd => rfl); (case hg => rfl); (case hr => first | (go_simp; done) | (go_simp; rfl)); intro gb169 hg w32 hbox hb; have n0_ := Aside0.mk (Kd.R_below (Kd.R_elderB (by (with_reducible repeat (first | apply Kd.R_alloc | apply Kd.R_drewN | apply Kd.R_drew)); exact HO_62.out) gb169 (Nat.le_of_eq hg.symm)) hb); have n1_ := Aside0.mk (below_step (by repeat (first | (with_reducible first | exact HB.out | apply below_alloc | apply pw_below_drewN | apply below_drew1) | exact HB.out)) hb); have n2_ := Aside0.mk (hbox); have n3_ := Aside0.mk ((by rw [hg]; exact (below_size (by repeat (first | (with_reducible first | exact HB.out | apply below_alloc | apply pw_below_drewN | apply below_drew1) | exact HB.out))) : w.heap.size ≤ gb169)); have n4_ := Aside0.mk ((by rw [hg]; exact (below_size (by repeat (first | (with_reducible first | exact HB.out | apply below_alloc | apply pw_below_drewN | apply below_drew1) | exact HB.out))) : w.heap.size ≤ gb169)); clear HO_62; clear HB; have HO_62 := n0_; have HB := n1_; have BK169 := n2_; have GW169 := n3_; have GE169 := n4_; clear n0_ n1_ n2_ n3_ n4_; clear hb hbox hg; have hcz33_0 : w32.cell? ⟨gb169, 0, none⟩ = some (.int .i64 0) := (blk_cell BK169.out 0).trans rfl; have hcz33_1 : w32.cell? ⟨gb169, 1, none⟩ = some (.string (⟨#[]⟩ : ByteArray)) := (blk_cell BK169.out 1).trans rfl; have hcz33_2 : w32.cell? ⟨gb169, 2, none⟩ = some (.int .i64 0) := (blk_cell BK169.out 2).trans rfl; have hfz33_0 := blk_frozen BK169.out 0; have hfz33_1 := blk_frozen BK169.out 1; have hfz33_2 := blk_frozen BK169.out 2) | ((with_reducible refine gate_callee (f := 14) rfl ?_); refine goesL_ (some 71) rfl rfl Tryd.func14 (by kernel_rfl) rfl #[.string ((rd_T31 t163 x64_3).f1)] rfl (by (try simp only [List.map_toArray, List.map_cons, List.map_nil]); first | done | rfl | (simp only [List.length_drop, List.length_take]; rfl)) ?_; (with_reducible refine (lex_Mean.calls k3 ((rd_T31 t163 x64_3).f1) t170 t171 _ ?side1 A25.out).mono ?_); (case side1 => (first | ((repeat (first | (with_reducible exact hL) | apply Laid.drewN | apply Laid.drew | apply Laid.alloc)); done) | exact Laid.below hL (by repeat (first | (with_reducible first | exact HB.out | apply below_alloc | apply pw_below_drewN | apply below_drew1 | refine below_set ?_ GE169.out) | exact HB.out)))); rintro e w34 ⟨rfl, hb⟩; refine ⟨_, rfl, ?_⟩; have n0_ := Aside0.mk (Kd.R_below (by (with_reducible repeat (first | apply Kd.R_alloc | apply Kd.R_drewN | apply Kd.R_drew)); exact (Kd.R_mono (Kd.R_far (p := ⟨gb169, 2, none⟩) (Kd.R_far (p := ⟨gb169, 1, none⟩) (Kd.R_far (p := ⟨gb169, 0, none⟩) (Kd.R_mono HO_62.out (fun k_ hk => (⟨hk, hk.2⟩ : _ ∧ k_ ≠ gb169))) (fun _ hk => hk.2) (.int .i64 ((rd_T31 t163 x64_3).f0))) (fun _ hk => hk.2) (.string ((rd_T31 t163 x64_3).f1))) (fun _ hk => hk.2) (.int .i64 ((rd_T31 t163 x64_3).f2))) (fun _ h_ => h_.1))) hb); have n1_ := Aside0.mk (blk_below (g := gb169) (o := .cells #[.int .i64 ((rd_T31 t163 x64_3).f0), .string ((rd_T31 t163 x64_3).f1), .int .i64 ((rd_T31 t163 x64_3).f2)] 31 (0, 0)) (by (with_reducible repeat (first | refine blk_drewN ?_ _ | refine blk_drew ?_ | refine blk_alloc ?_ _)); refine blk_put (cs := #[.int .i64 ((rd_T31 t163 x64_3).f0), .string ((rd_T31 t163 x64_3).f1), .int .i64 0]) ?_ 2 _ rfl; (with_reducible repeat (first | refine blk_drewN ?_ _ | refine blk_drew ?_ | refine blk_alloc ?_ _)); refine blk_put (cs := #[.int .i64 ((rd_T31 t163 x64_3).f0), .string (⟨#[]⟩ : ByteArray), .int .i64 0]) ?_ 1 _ rfl; (with_reducible repeat (first | refine blk_drewN ?_ _ | refine blk_drew ?_ | refine blk_alloc ?_ _)); refine blk_put (cs := #[.int .i64 0, .string (⟨#[]⟩ : ByteArray), .int .i64 0]) ?_ 0 _ rfl; (with_reducible repeat (first | refine blk_drewN ?_ _ | refine blk_drew ?_ | refine blk_alloc ?_ _)); exact BK169.out) hb); have n2_ := Aside0.mk (below_step (by repeat (first | (with_reducible first | exact HB.out | apply below_alloc | apply pw_below_drewN | apply below_drew1 | refine below_set ?_ GE169.out) | exact HB.out)) hb); clear HO_62; clear BK169; clear HB; have HO_62 := n0_; have BK169 := n1_; have HB := n2_; clear n0_ n1_ n2_; (try clear hb); (try clear hb2); (try clear hk); (try clear hi); have hcz35_0 : w34.cell? ⟨gb169, 0, none⟩ = some (.int .i64 ((rd_T31 t163 x64_3).f0)) := (blk_cell BK169.out 0).trans rfl; have hcz35_1 : w34.cell? ⟨gb169, 1, none⟩ = some (.string ((rd_T31 t163 x64_3).f1)) := (blk_cell BK169.out 1).trans rfl; have hcz35_2 : w34.cell? ⟨gb169, 2, none⟩ = some (.int .i64 ((rd_T31 t163 x64_3).f2)) := (blk_cell BK169.out 2).trans rfl; have hfz35_0 := blk_frozen BK169.out 0; have hfz35_1 := blk_frozen BK169.out 1; have hfz35_2 := blk_frozen BK169.out 2))
                            go_roundg k3
                            case measure => have := HJ1.out; have := HJ11.out; have := HK3.out; omega
                            case rel => exact ⟨(wrap64 (x64_3 + 1)), (by first | rfl | (simp; done) | (simp [*]; done)), H', ⟨by have := HJ1.out; have := HJ11.out; have := HK3.out; omega⟩, ⟨by (with_reducible repeat (first | apply Kd.R_alloc | apply Kd.R_drewN | apply Kd.R_drew)); exact Kd.R_mono HO_62.out (fun _ hk => trivial)⟩, ⟨by repeat (first | (with_reducible first | exact HB.out | apply below_alloc | apply pw_below_drewN | apply below_drew1 | refine below_set ?_ GE169.out) | exact HB.out)⟩⟩
                        · rw [if_neg c26] at H
                          have c26b0 : ((((rd_T31 t163 x64_3).f0) == 2) != (t171 == 0)) = false := by simpa using c26
                          (try (have c26b1 : decide ((((rd_T31 t163 x64_3).f0) == 2) = (t171 == 0)) = true := by simpa using c26))
                          (try (have c26b2 : ((((rd_T31 t163 x64_3).f0) == 2) == (t171 == 0)) = true := by simpa using c26))
                          clear c26
                          have H' := Aside0.mk H
                          clear H
                          have p168 : 0 ≤ (x64_3 : Int) := of_decide_eq_true (by first | (with_reducible assumption) | assumption)
                          have q168 : x64_3 < (t163.length : Int) := of_decide_eq_true (by first | (with_reducible assumption) | assumption)
                          obtain ⟨ad168, e168, hx168_0, hx168_1, hx168_2⟩ := at_T31 (Kd.R_reads' HO_62.out).2.2 x64_3 p168 q168
                          cases e168
                          replace p168 := eq_true p168
                          replace q168 := eq_true q168
                          go_wp2_with (first | ((with_reducible refine gate_dst (N := 11) rfl ?_); (try (refine gate_guard (by rfl) ?_; dsimp only)); refine box_event ?hg (N := 11) ?hd (cs := #[.int .i64 0, .string (⟨#[]⟩ : ByteArray), .int .i64 0]) (t := 31) ?hr ?_; (case hd => rfl); (case hg => rfl); (case hr => first | (go_simp; done) | (go_simp; rfl)); intro gb169 hg w36 hbox hb; have n0_ := Aside0.mk (Kd.R_below (Kd.R_elderB (by (with_reducible repeat (first | apply Kd.R_alloc | apply Kd.R_drewN | apply Kd.R_drew)); exact HO_62.out) gb169 (Nat.le_of_eq hg.symm)) hb); have n1_ := Aside0.mk (below_step (by repeat (first | (with_reducible first | exact HB.out | apply below_alloc | apply pw_below_drewN | apply below_drew1) | exact HB.out)) hb); have n2_ := Aside0.mk (hbox); have n3_ := Aside0.mk ((by rw [hg]; exact (below_size (by repeat (first | (with_reducible first | exact HB.out | apply below_alloc | apply pw_below_drewN | apply below_drew1) | exact HB.out))) : w.heap.size ≤ gb169)); have n4_ := Aside0.mk ((by rw [hg]; exact (below_size (by repeat (first | (with_reducible first | exact HB.out | apply below_alloc | apply pw_below_drewN | apply below_drew1) | exact HB.out))) : w.heap.size ≤ gb169)); clear HO_62; clear HB; have HO_62 := n0_; have HB := n1_; have BK169 := n2_; have GW169 := n3_; have GE169 := n4_; clear n0_ n1_ n2_ n3_ n4_; clear hb hbox hg; have hcz37_0 : w36.cell? ⟨gb169, 0, none⟩ = some (.int .i64 0) := (blk_cell BK169.out 0).trans rfl; have hcz37_1 : w36.cell? ⟨gb169, 1, none⟩ = some (.string (⟨#[]⟩ : ByteArray)) := (blk_cell BK169.out 1).trans rfl; have hcz37_2 : w36.cell? ⟨gb169, 2, none⟩ = some (.int .i64 0) := (blk_cell BK169.out 2).trans rfl; have hfz37_0 := blk_frozen BK169.out 0; have hfz37_1 := blk_frozen BK169.out 1; have hfz37_2 := blk_frozen BK169.out 2) | ((with_reducible refine gate_callee (f := 14) rfl ?_); refine goesL_ (some 71) rfl rfl Tryd.func14 (by kernel_rfl) rfl #[.string ((rd_T31 t163 x64_3).f1)] rfl (by (try simp only [List.map_toArray, List.map_cons, List.map_nil]); first | done | rfl | (simp only [List.length_drop, List.length_take]; rfl)) ?_; (with_reducible refine (lex_Mean.calls k3 ((rd_T31 t163 x64_3).f1) t170 t171 _ ?side1 A25.out).mono ?_); (case side1 => (first | ((repeat (first | (with_reducible exact hL) | apply Laid.drewN | apply Laid.drew | apply Laid.alloc)); done) | exact Laid.below hL (by repeat (first | (with_reducible first | exact HB.out | apply below_alloc | apply pw_below_drewN | apply below_drew1 | refine below_set ?_ GE169.out) | exact HB.out)))); rintro e w38 ⟨rfl, hb⟩; refine ⟨_, rfl, ?_⟩; have n0_ := Aside0.mk (Kd.R_below (by (with_reducible repeat (first | apply Kd.R_alloc | apply Kd.R_drewN | apply Kd.R_drew)); exact (Kd.R_mono (Kd.R_far (p := ⟨gb169, 2, none⟩) (Kd.R_far (p := ⟨gb169, 1, none⟩) (Kd.R_far (p := ⟨gb169, 0, none⟩) (Kd.R_mono HO_62.out (fun k_ hk => (⟨hk, hk.2⟩ : _ ∧ k_ ≠ gb169))) (fun _ hk => hk.2) (.int .i64 ((rd_T31 t163 x64_3).f0))) (fun _ hk => hk.2) (.string ((rd_T31 t163 x64_3).f1))) (fun _ hk => hk.2) (.int .i64 ((rd_T31 t163 x64_3).f2))) (fun _ h_ => h_.1))) hb); have n1_ := Aside0.mk (blk_below (g := gb169) (o := .cells #[.int .i64 ((rd_T31 t163 x64_3).f0), .string ((rd_T31 t163 x64_3).f1), .int .i64 ((rd_T31 t163 x64_3).f2)] 31 (0, 0)) (by (with_reducible repeat (first | refine blk_drewN ?_ _ | refine blk_drew ?_ | refine blk_alloc ?_ _)); refine blk_put (cs := #[.int .i64 ((rd_T31 t163 x64_3).f0), .string ((rd_T31 t163 x64_3).f1), .int .i64 0]) ?_ 2 _ rfl; (with_reducible repeat (first | refine blk_drewN ?_ _ | refine blk_drew ?_ | refine blk_alloc ?_ _)); refine blk_put (cs := #[.int .i64 ((rd_T31 t163 x64_3).f0), .string (⟨#[]⟩ : ByteArray), .int .i64 0]) ?_ 1 _ rfl; (with_reducible repeat (first | refine blk_drewN ?_ _ | refine blk_drew ?_ | refine blk_alloc ?_ _)); refine blk_put (cs := #[.int .i64 0, .string (⟨#[]⟩ : ByteArray), .int .i64 0]) ?_ 0 _ rfl; (with_reducible repeat (first | refine blk_drewN ?_ _ | refine blk_drew ?_ | refine blk_alloc ?_ _)); exact BK169.out) hb); have n2_ := Aside0.mk (below_step (by repeat (first | (with_reducible first | exact HB.out | apply below_alloc | apply pw_below_drewN | apply below_drew1 | refine below_set ?_ GE169.out) | exact HB.out)) hb); clear HO_62; clear BK169; clear HB; have HO_62 := n0_; have BK169 := n1_; have HB := n2_; clear n0_ n1_ n2_; (try clear hb); (try clear hb2); (try clear hk); (try clear hi); have hcz39_0 : w38.cell? ⟨gb169, 0, none⟩ = some (.int .i64 ((rd_T31 t163 x64_3).f0)) := (blk_cell BK169.out 0).trans rfl; have hcz39_1 : w38.cell? ⟨gb169, 1, none⟩ = some (.string ((rd_T31 t163 x64_3).f1)) := (blk_cell BK169.out 1).trans rfl; have hcz39_2 : w38.cell? ⟨gb169, 2, none⟩ = some (.int .i64 ((rd_T31 t163 x64_3).f2)) := (blk_cell BK169.out 2).trans rfl; have hfz39_0 := blk_frozen BK169.out 0; have hfz39_1 := blk_frozen BK169.out 1; have hfz39_2 := blk_frozen BK169.out 2))
                          go_roundg k3
                          case measure => have := HJ1.out; have := HJ11.out; have := HK3.out; omega
                          case rel => exact ⟨(wrap64 (x64_3 + 1)), (by first | rfl | (simp; done) | (simp [*]; done)), H', ⟨by have := HJ1.out; have := HJ11.out; have := HK3.out; omega⟩, ⟨by (with_reducible repeat (first | apply Kd.R_alloc | apply Kd.R_drewN | apply Kd.R_drew)); exact Kd.R_mono HO_62.out (fun _ hk => trivial)⟩, ⟨by repeat (first | (with_reducible first | exact HB.out | apply below_alloc | apply pw_below_drewN | apply below_drew1 | refine below_set ?_ GE169.out) | exact HB.out)⟩⟩
                      · rw [if_neg c24] at H
                        exact absurd H (by simp)
                    · rw [if_neg c23] at H
                      exact absurd H (by simp)
                  · rw [if_neg c22] at H
                    have c22b0 : decide (x64_3 < (t163.length : Int)) = false := decide_eq_false c22
                    clear c22
                    obtain rfl := Option.some.inj H
                    go_wp2
                    go_ret
                    exact ⟨by first | rfl | (simp [errW_none, errW_some] <;> rfl) | (simp [*, errW_none, errW_some] <;> rfl), by repeat (first | (with_reducible first | exact HB.out | apply below_alloc | apply pw_below_drewN | apply below_drew1) | exact HB.out)⟩

/-- THE ONE PURE STATEMENT of hauberklaw05_LexMeans: yours. -/
def hauberklaw05_LexMeans.Pure : Prop := ∀ (a0 : ByteArray), a0.size ≤ 140737488351232 → ∃ k, hauberklaw05_LexMeans.f k a0 = some true
theorem hauberklaw05_LexMeans.walk (P : hauberklaw05_LexMeans.Pure) (a0 : ByteArray) (w : World) (hL : Laid w) (w0 : a0.size ≤ 140737488351232) :
    Calls Tryd.prog 4 #[.string a0] w fun e w' => e = .returned (.bool true) ∧ Below w.heap.size w w' := by
  obtain ⟨k, h⟩ := P a0 w0
  refine (hauberklaw05_LexMeans.calls k a0 true w hL h).mono ?_
  rintro e w' ⟨rfl, hd⟩
  exact ⟨rfl, hd⟩

end Go.Proofs.YtjegaejdphmdgaaDoor.Print
