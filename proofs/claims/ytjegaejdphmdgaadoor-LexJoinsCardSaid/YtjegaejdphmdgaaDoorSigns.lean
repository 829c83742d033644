/-
  lex.signs: the map of the nine signs of two bytes, whatever order Go lays them in.
-/
import Derived.Test.YtjegaejdphmdgaaDoorRap
import Derived.RegionTactic
import Derived.BigRegion
import Derived.Deep.RegionWith
import Derived.Maps.OwnOps
import Derived.Maps.Views
import Derived.DeepKeys4
import Derived.WideKeyArgs
namespace Go.Proofs.YtjegaejdphmdgaaDoor.Print
open Go.RowKit Go.Lib Go.Maps Go.Proofs.YtjegaejdphmdgaaDoorW.PrintWords Go.Proofs.YtjegaejdphmdgaaDoor.LexP
set_option linter.unusedVariables false

theorem laidOut : laidOutB Tryd.prog = true := by kernel_rfl
theorem row68 : (68 : TypeId) < Tryd.prog.types.size := of_decide_eq_true (by kernel_rfl)
theorem wide68 : (match Tryd.prog.underlying 68 with | some (.array _ _) | some (.struct _) => true | _ => false) = true := by rw [Tryd.underlying68]
theorem kt68 : Tryd.prog.keyTypeAt 2 68 = true := by kernel_rfl
set_option maxRecDepth 100000 in
theorem law68' : WideMaps.KeyLaw Tryd.prog 68 := deep_law_laid laidOut (m := 2) (by omega) row68 kt68 wide68
theorem law68 : Keyed Tryd.prog 68 := Keyed.of_law law68'
theorem zero3 (w : World) : (zeroValue 3).run Tryd.prog w = .ok (.int .i64 0) w := by kernel_rfl
def pairKey (c d : UInt8) : Lit := .string [c, d]
theorem cells68 : Tryd.prog.cellsOf 68 = 2 := by kernel_rfl
theorem cells5 : Tryd.prog.cellsOf 5 = 1 := by kernel_rfl
theorem keyType68 : Tryd.prog.keyType 68 = true := by kernel_rfl
theorem pos_of {n k : Nat} (h : k < n) : ∃ m, n = m + 1 := ⟨n - 1, by omega⟩
set_option maxRecDepth 100000 in
theorem size_types : ∃ n, Tryd.prog.types.size = n + 1 := pos_of row68
theorem u8_wf (c : UInt8) : (Lit.int .u8 (c.toNat : Int)).wf = true := WalkArith.wf_u8 (by have := c.toNat_lt; omega)
theorem keyLits5 (n : Nat) (c : UInt8) : Tryd.prog.keyLits (n + 1) 5 [.int .u8 (c.toNat : Int)] = some [.int .u8 (c.toNat : Int)] := by
  unfold Program.keyLits
  rw [Tryd.underlying5]
  simp only [u8_wf, and_self, if_true]
theorem keyLits68 (n : Nat) (c d : UInt8) : Tryd.prog.keyLits (n + 2) 68 [.int .u8 (c.toNat : Int), .int .u8 (d.toNat : Int)] = some [.int .u8 (c.toNat : Int), .int .u8 (d.toNat : Int)] := by
  unfold Program.keyLits
  rw [Tryd.underlying68]
  simp only [cells68, cells5, List.length_cons, List.length_nil, if_true]
  show ((List.range 2).mapM fun i => Tryd.prog.keyLits (n + 1) 5 _).map List.flatten = _
  simp [List.range, List.range.loop, List.mapM_cons, keyLits5]
theorem keyBytes_one (c : UInt8) : Lit.keyBytes (.int .u8 (c.toNat : Int)) = [c] := by
  have H : ∀ n : Fin 256, Lit.keyBytes (.int .u8 ((UInt8.ofNat n.val).toNat : Int)) = [UInt8.ofNat n.val] := by decide +kernel
  have h := H ⟨c.toNat, c.toNat_lt⟩
  rwa [UInt8.ofNat_toNat] at h
theorem keyBytes_pair (c d : UInt8) : keyBytes [.int .u8 (c.toNat : Int), .int .u8 (d.toNat : Int)] = [c, d] := by
  simp [keyBytes, keyBytes_one]
theorem keyOf_pair (c d : UInt8) : keyOf Tryd.prog 68 (.agg #[.int .u8 (c.toNat : Int), .int .u8 (d.toNat : Int)]) = some (pairKey c d) := by
  obtain ⟨n, hn⟩ := size_types
  unfold keyOf
  rw [Tryd.underlying68, keyType68, hn]
  simp only [Bool.true_and]
  have hf : Value.formed Tryd.prog 68 (Value.agg #[Value.int IntKind.u8 ↑c.toNat, Value.int IntKind.u8 ↑d.toNat]) = true := by simp [Value.formed, Tryd.underlying68, cells68]
  rw [if_pos hf]
  show Option.map _ (Tryd.prog.keyLits (n + 2) 68 [.int .u8 (c.toNat : Int), .int .u8 (d.toNat : Int)]) = _
  rw [keyLits68]
  show some (Lit.string (keyBytes [.int .u8 (c.toNat : Int), .int .u8 (d.toNat : Int)])) = _
  rw [keyBytes_pair]
  rfl

/-- More than one order: an invariant over what has been listed. -/
theorem wpAny_inv {P : Program} {md : Region.Mode} {ops : Array Oper} {Q : Exit → Act → World → Prop} (I : Nat → Array Bool → Act → World → Prop)
    (hs : ∀ k listed a w i, I (k + 1) listed a w → i ∈ Region.ready md ops listed → wpOp P ops Q i (I k (listed.setIfInBounds i true)) a w)
    (hz : ∀ listed a w, I 0 listed a w → Region.ready md ops listed = [])
    (hq : ∀ k listed a w, I k listed a w → Region.ready md ops listed = [] → Q .normal a w) : ∀ fuel listed a w, I fuel listed a w → wpAny P md ops Q fuel listed a w
  | 0, listed, a, w, h => ⟨hz _ _ _ h, hq _ _ _ _ h (hz _ _ _ h)⟩
  | fuel + 1, listed, a, w, h => ⟨fun h0 => hq _ _ _ _ h h0, fun i hi => wpOp_mono (fun a w h' => wpAny_inv I hs hz hq fuel _ a w h') (hs _ _ _ _ _ h hi)⟩

def sc (j : Nat) : UInt8 := (twos.getD j (0, 0)).1
def sd (j : Nat) : UInt8 := (twos.getD j (0, 0)).2
def pairVal (j : Nat) : Value := .agg #[.int .u8 ((sc j).toNat : Int), .int .u8 ((sd j).toNat : Int)]
def keyAt (j : Nat) : Lit := pairKey (sc j) (sd j)
theorem keyOf_at (j : Nat) : keyOf Tryd.prog 68 (pairVal j) = some (keyAt j) := keyOf_pair _ _

/-- The operations of the map's literal. -/
structure SignOps (ops : Array Oper) : Prop where
  sz : ops.size = 21
  mk0 : ∃ ty pos af, ops[0]? = some ⟨some 1, .makeMap 65 none, ty, pos, af, none⟩ ∧ af.all (fun _ => false) = true
  bld : ∀ j, j < 9 → ∃ ty pos af, ops[2 * j + 1]? = some ⟨some (j + 2), .build 68 #[(0, .const (.int .u8 ((sc j).toNat : Int))), (1, .const (.int .u8 ((sd j).toNat : Int)))], ty, pos, af, none⟩ ∧ af.all (fun _ => false) = true
  ins : ∀ j, j < 9 → ∃ ty pos af, ops[2 * j + 2]? = some ⟨none, .insert 65 (.tmp 1) (.tmp (j + 2)) (.const (.int .i64 2)), ty, pos, af, none⟩ ∧ (∃ e ∈ af, e.on = 0 ∧ Region.binds .any e = true) ∧ (∃ e ∈ af, e.on = 2 * j + 1 ∧ Region.binds .any e = true) ∧ af.all (fun e => decide (e.on = 0 ∨ e.on = 2 * j + 1)) = true
  mv : ∃ ty pos af, ops[19]? = some ⟨some 11, .move (.tmp 1), ty, pos, af, none⟩ ∧ (∃ e ∈ af, e.on = 0 ∧ Region.binds .any e = true) ∧ af.all (fun e => decide (e.on < 19)) = true
  asg : ∃ ty pos af, ops[20]? = some ⟨some 0, .assign (.tmp 11), ty, pos, af, none⟩ ∧ (∃ e ∈ af, e.on = 19 ∧ Region.binds .any e = true) ∧ af.all (fun e => decide (e.on < 20)) = true

/-- A map that reads as the nine signs have it, as far as they have been listed. -/
def Reads (listed : Array Bool) (D : DataW Unit) : Prop :=
  IsMap D ∧ (∀ j, j < 9 → listed.getD (2 * j + 2) false = true → D.atKey (keyAt j) (.lit (.int .i64 0)) = .lit (.int .i64 2)) ∧
    (∀ kl, (∀ j, j < 9 → kl ≠ keyAt j) → D.atKey kl (.lit (.int .i64 0)) = .lit (.int .i64 0))

structure SI (w0 : World) (k : Nat) (listed : Array Bool) (a : Act) (w : World) : Prop where
  room : ∀ l : List Nat, l.Nodup → (∀ i ∈ l, i < 21 ∧ listed.getD i true = false) → l.length ≤ k
  sz : listed.size = 21
  df : a.defers = []
  tsz : a.tmps.size = 12
  bel : Below w0.heap.size w0 w
  bd : ∀ j, j < 9 → listed.getD (2 * j + 1) false = true → a.tmps.getD (j + 2) undef = pairVal j
  t1 : listed.getD 0 false = true → a.tmps.getD 1 undef = .map (some w0.heap.size)
  t11 : listed.getD 19 false = true → a.tmps.getD 11 undef = .map (some w0.heap.size)
  t0 : listed.getD 20 false = true → a.tmps.getD 0 undef = .map (some w0.heap.size)
  none_ : listed.getD 0 false = false → w.heap.size = w0.heap.size ∧ ∀ j, j < 9 → listed.getD (2 * j + 2) false = false
  kb : k ≤ 21
  some_ : listed.getD 0 false = true → ∃ (n : Nat) (D : DataW Unit), w.ownsMap Tryd.prog 68 (plainElem Tryd.prog 3) w0.heap.size n D ∧ n + k ≤ 21 ∧ Reads listed D

theorem getD_set_same {listed : Array Bool} {i : Nat} {d : Bool} (h : i < listed.size) : (listed.setIfInBounds i true).getD i d = true := by
  simp [Array.getD_eq_getD_getElem?, h]
theorem room_set {listed : Array Bool} {k i : Nat} (hi : i < 21) (hsz : listed.size = 21) (hl : listed.getD i true = false) (h : ∀ l : List Nat, l.Nodup → (∀ i ∈ l, i < 21 ∧ listed.getD i true = false) → l.length ≤ k + 1) :
    ∀ l : List Nat, l.Nodup → (∀ j ∈ l, j < 21 ∧ (listed.setIfInBounds i true).getD j true = false) → l.length ≤ k := by
  intro l hn hl'
  have hni : i ∉ l := fun hm => by
    have := (hl' i hm).2
    rw [getD_set_same (by omega)] at this
    cases this
  have := h (i :: l) (List.nodup_cons.2 ⟨hni, hn⟩) (fun j hj => by
    rcases List.mem_cons.1 hj with rfl | hj
    · exact ⟨hi, hl⟩
    · have hne : i ≠ j := fun e => hni (e ▸ hj)
      have := hl' j hj
      rw [getD_set_ne true hne] at this
      exact this)
  simpa using this
theorem getD_put {a : Act} {d j : Nat} {v : Value} (hd : d < a.tmps.size) : (a.put (some d) v).tmps.getD j undef = if d = j then v else a.tmps.getD j undef := by
  unfold Act.put
  simp only [Array.getD_eq_getD_getElem?, Array.getElem?_setIfInBounds]
  by_cases h : d = j
  · subst h; simp [hd]
  · simp [h]
theorem run_pair (x y : Int) (w : World) : (Instr.build 68 #[(0, .int .u8 x), (1, .int .u8 y)]).run Tryd.prog w = .ok (.agg #[.int .u8 x, .int .u8 y]) w := run_build w 68 _ _ (by kernel_rfl)
theorem wpOp_plain {P : Program} {ops : Array Oper} {Q : Exit → Act → World → Prop} {i : Nat} {K : Act → World → Prop} {a : Act} {w : World} {o : Oper} (ho : ops[i]? = some o) (hg : o.guard = none) (h : o.wp P a w K Q) : wpOp P ops Q i K a w := by
  unfold wpOp
  rw [ho]
  simp only [Region.wanted, hg, if_true]
  exact .inl h
theorem getD_df {l : Array Bool} {j : Nat} (h : j < l.size) : l.getD j true = l.getD j false := by simp [Array.getD, h]
theorem keyAt_lit (j : Nat) : WideAt.IsKeyLit (keyAt j) := by simp [keyAt, pairKey, WideAt.IsKeyLit]
theorem keyAt_inj {i j : Nat} (hi : i < 9) (hj : j < 9) (h : keyAt i = keyAt j) : i = j := by
  have H : ∀ i j : Fin 9, (sc i.val, sd i.val) = (sc j.val, sd j.val) → i = j := by decide +kernel
  unfold keyAt pairKey at h
  injection h with h
  injection h with h1 h2
  injection h2 with h2 _
  exact congrArg Fin.val (H ⟨i, hi⟩ ⟨j, hj⟩ (by rw [Prod.mk.injEq]; exact ⟨h1, h2⟩))
theorem atKey_other {D : DataW Unit} {k k' : Lit} (h : k' ≠ k) (d z : DataW Unit) : (D.put k d).atKey k' z = D.atKey k' z := atKey_put_other h d z

theorem SI.step {w0 : World} {ops : Array Oper} {Q : Exit → Act → World → Prop} (O : SignOps ops) (k : Nat) (listed : Array Bool) (a : Act) (w : World) (i : Nat)
    (h : SI w0 (k + 1) listed a w) (hr : i ∈ Region.ready .any ops listed) : wpOp Tryd.prog ops Q i (SI w0 k (listed.setIfInBounds i true)) a w := by
  obtain ⟨hl, o, ho, he⟩ := mem_ready.1 hr
  have hi : i < 21 := by have := (Array.getElem?_eq_some_iff.1 ho).1; rw [O.sz] at this; exact this
  have hroom := room_set hi h.sz hl h.room
  have hsz : (listed.setIfInBounds i true).size = 21 := by rw [Array.size_setIfInBounds]; exact h.sz
  have hne : ∀ j d, i ≠ j → (listed.setIfInBounds i true).getD j d = listed.getD j d := fun j d hj => getD_set_ne d hj
  have hsame : ∀ d, (listed.setIfInBounds i true).getD i d = true := fun d => getD_set_same (by rw [h.sz]; exact hi)
  have hlf : listed.getD i false = false := by rw [← getD_df (by rw [h.sz]; exact hi)]; exact hl
  have hcase : i = 0 ∨ (∃ j, j < 9 ∧ i = 2 * j + 1) ∨ (∃ j, j < 9 ∧ i = 2 * j + 2) ∨ i = 19 ∨ i = 20 := by
    by_cases h0 : i = 0
    · exact .inl h0
    by_cases h19 : i = 19
    · exact .inr (.inr (.inr (.inl h19)))
    by_cases h20 : i = 20
    · exact .inr (.inr (.inr (.inr h20)))
    rcases Nat.mod_two_eq_zero_or_one i with hm | hm
    · exact .inr (.inr (.inl ⟨i / 2 - 1, by omega, by omega⟩))
    · exact .inr (.inl ⟨i / 2, by omega, by omega⟩)
  rcases hcase with rfl | ⟨j, hj, rfl⟩ | ⟨j, hj, rfl⟩ | rfl | rfl
  · obtain ⟨ty, pos, af, hop, _⟩ := O.mk0
    refine wpOp_plain hop rfl ?_
    unfold Oper.wp
    have hrun : (execOp a.eval ⟨some 1, .makeMap 65 none, ty, pos, af, none⟩).run Tryd.prog w = .ok (.value (.map (some w.heap.size))) (w.alloc (.map #[] 0)) := by
      simp [execOp, run_makeMap, Result.andThen]
    rw [hrun]
    show SI w0 k _ (a.put (some 1) (.map (some w.heap.size))) (w.alloc (.map #[] 0))
    obtain ⟨hws, hins⟩ := h.none_ hlf
    rw [hws]
    exact {
      room := hroom, sz := hsz, df := h.df, tsz := by simp [Act.put, h.tsz], bel := below_alloc h.bel _
      bd := fun j hj hb => by rw [hne _ _ (by omega)] at hb; rw [getD_put (by rw [h.tsz]; omega), if_neg (by omega)]; exact h.bd j hj hb
      t1 := fun _ => by rw [getD_put (by rw [h.tsz]; omega), if_pos rfl]
      t11 := fun hb => by rw [hne _ _ (by omega)] at hb; rw [getD_put (by rw [h.tsz]; omega), if_neg (by omega)]; exact h.t11 hb
      t0 := fun hb => by rw [hne _ _ (by omega)] at hb; rw [getD_put (by rw [h.tsz]; omega), if_neg (by omega)]; exact h.t0 hb
      none_ := fun hb => by rw [hsame] at hb; cases hb
      kb := by have := h.kb; omega
      some_ := fun _ => ⟨0, .map [], by have := World.ownsMap_made (H := Unit) w Tryd.prog 68 (plainElem Tryd.prog 3); rw [hws] at this; exact this, by have := h.kb; omega, isMap_empty, fun j hj hb => (by
        rw [hne _ _ (by omega), hins j hj] at hb; cases hb), fun kl _ => rfl⟩ }
  · obtain ⟨ty, pos, af, hop, _⟩ := O.bld j hj
    refine wpOp_plain hop rfl ?_
    unfold Oper.wp
    have hrun : (execOp a.eval ⟨some (j + 2), .build 68 #[(0, .const (.int .u8 ((sc j).toNat : Int))), (1, .const (.int .u8 ((sd j).toNat : Int)))], ty, pos, af, none⟩).run Tryd.prog w = .ok (.value (pairVal j)) w := by
      have := run_pair ((sc j).toNat : Int) ((sd j).toNat : Int) w
      simp [execOp, Act.eval, this, Result.andThen, pairVal]
    rw [hrun]
    show SI w0 k _ (a.put (some (j + 2)) (pairVal j)) w
    exact {
      room := hroom, sz := hsz, df := h.df, tsz := by simp [Act.put, h.tsz], bel := h.bel
      bd := fun j' hj' hb => by
        rw [getD_put (by rw [h.tsz]; omega)]
        by_cases e : j = j'
        · subst e; rw [if_pos rfl]
        · rw [hne _ _ (by omega)] at hb; rw [if_neg (by omega)]; exact h.bd j' hj' hb
      t1 := fun hb => by rw [hne _ _ (by omega)] at hb; rw [getD_put (by rw [h.tsz]; omega), if_neg (by omega)]; exact h.t1 hb
      t11 := fun hb => by rw [hne _ _ (by omega)] at hb; rw [getD_put (by rw [h.tsz]; omega), if_neg (by omega)]; exact h.t11 hb
      t0 := fun hb => by rw [hne _ _ (by omega)] at hb; rw [getD_put (by rw [h.tsz]; omega), if_neg (by omega)]; exact h.t0 hb
      none_ := fun hb => by
        rw [hne _ _ (by omega)] at hb
        obtain ⟨h1, h2⟩ := h.none_ hb
        exact ⟨h1, fun j' hj' => by rw [hne _ _ (by omega)]; exact h2 j' hj'⟩
      kb := by have := h.kb; omega
      some_ := fun hb => by
        rw [hne _ _ (by omega)] at hb
        obtain ⟨n, D, h1, h2, h3, h4, h5⟩ := h.some_ hb
        exact ⟨n, D, h1, by omega, h3, fun j' hj' hb' => by rw [hne _ _ (by omega)] at hb'; exact h4 j' hj' hb', h5⟩ }
  · obtain ⟨ty, pos, af, hop, ⟨e0, he0, hon0, hbi0⟩, ⟨e1, he1, hon1, hbi1⟩, _⟩ := O.ins j hj
    rw [hop] at ho
    cases ho
    have l0 : listed.getD 0 false = true := by have := he e0 he0 hbi0; rw [hon0] at this; exact this
    have l1 : listed.getD (2 * j + 1) false = true := by have := he e1 he1 hbi1; rw [hon1] at this; exact this
    obtain ⟨n, D, hown, hn, h3, h4, h5⟩ := h.some_ l0
    have hm := h.t1 l0
    have hk := h.bd j hj l1
    obtain ⟨w1, hrun1, hown1, hg1⟩ := hown.update law68 Tryd.underlying65 (by unfold maxLen; omega) (keyOf_at j) (plainElem_int (H := Unit) Tryd.underlying3 (a := 2) (by decide))
    refine wpOp_plain hop rfl ?_
    unfold Oper.wp
    have hrun : (execOp a.eval ⟨none, .insert 65 (.tmp 1) (.tmp (j + 2)) (.const (.int .i64 2)), ty, pos, af, none⟩).run Tryd.prog w = .ok .skip w1 := by
      simp [execOp, Act.eval, hm, hk, hrun1, Result.andThen]
    rw [hrun]
    show SI w0 k _ a w1
    exact {
      room := hroom, sz := hsz, df := h.df, tsz := h.tsz
      bel := h.bel.grown hg1 h.bel.size (fun k hk => by cases hk; exact Nat.le_refl _)
      bd := fun j' hj' hb => by rw [hne _ _ (by omega)] at hb; exact h.bd j' hj' hb
      t1 := fun hb => h.t1 l0
      t11 := fun hb => by rw [hne _ _ (by omega)] at hb; exact h.t11 hb
      t0 := fun hb => by rw [hne _ _ (by omega)] at hb; exact h.t0 hb
      none_ := fun hb => by rw [hne _ _ (by omega), l0] at hb; cases hb
      kb := by have := h.kb; omega
      some_ := fun hb => ⟨n + 1, D.put (keyAt j) (.lit (.int .i64 2)), hown1, by omega, h3.put _ _, fun j' hj' hb' => by
        by_cases e : j = j'
        · subst e; exact atKey_put_same h3 (keyAt_lit j) _ _
        · rw [hne _ _ (by omega)] at hb'
          rw [atKey_other (fun e' => e (keyAt_inj hj' hj e').symm)]
          exact h4 j' hj' hb', fun kl hkl => by rw [atKey_other (hkl j hj)]; exact h5 kl hkl⟩ }
  · obtain ⟨ty, pos, af, hop, ⟨e0, he0, hon0, hbi0⟩, _⟩ := O.mv
    rw [hop] at ho
    cases ho
    have l0 : listed.getD 0 false = true := by have := he e0 he0 hbi0; rw [hon0] at this; exact this
    refine wpOp_plain hop rfl ?_
    unfold Oper.wp
    have hrun : (execOp a.eval ⟨some 11, .move (.tmp 1), ty, pos, af, none⟩).run Tryd.prog w = .ok (.value (.map (some w0.heap.size))) w := by
      have := h.t1 l0
      simp [execOp, Act.eval, this]
    rw [hrun]
    show SI w0 k _ (a.put (some 11) (.map (some w0.heap.size))) w
    exact {
      room := hroom, sz := hsz, df := h.df, tsz := by simp [Act.put, h.tsz], bel := h.bel
      bd := fun j' hj' hb => by rw [hne _ _ (by omega)] at hb; rw [getD_put (by rw [h.tsz]; omega), if_neg (by omega)]; exact h.bd j' hj' hb
      t1 := fun hb => by rw [getD_put (by rw [h.tsz]; omega), if_neg (by omega)]; exact h.t1 l0
      t11 := fun hb => by rw [getD_put (by rw [h.tsz]; omega), if_pos rfl]
      t0 := fun hb => by rw [hne _ _ (by omega)] at hb; rw [getD_put (by rw [h.tsz]; omega), if_neg (by omega)]; exact h.t0 hb
      none_ := fun hb => by rw [hne _ _ (by omega), l0] at hb; cases hb
      kb := by have := h.kb; omega
      some_ := fun hb => by
        obtain ⟨n, D, h1, h2, h3, h4, h5⟩ := h.some_ l0
        exact ⟨n, D, h1, by omega, h3, fun j' hj' hb' => by rw [hne _ _ (by omega)] at hb'; exact h4 j' hj' hb', h5⟩ }
  · obtain ⟨ty, pos, af, hop, ⟨e0, he0, hon0, hbi0⟩, _⟩ := O.asg
    rw [hop] at ho
    cases ho
    have l0 : listed.getD 19 false = true := by have := he e0 he0 hbi0; rw [hon0] at this; exact this
    refine wpOp_plain hop rfl ?_
    unfold Oper.wp
    have hrun : (execOp a.eval ⟨some 0, .assign (.tmp 11), ty, pos, af, none⟩).run Tryd.prog w = .ok (.value (.map (some w0.heap.size))) w := by
      have := h.t11 l0
      simp [execOp, Act.eval, this]
    rw [hrun]
    show SI w0 k _ (a.put (some 0) (.map (some w0.heap.size))) w
    exact {
      room := hroom, sz := hsz, df := h.df, tsz := by simp [Act.put, h.tsz], bel := h.bel
      bd := fun j' hj' hb => by rw [hne _ _ (by omega)] at hb; rw [getD_put (by rw [h.tsz]; omega), if_neg (by omega)]; exact h.bd j' hj' hb
      t1 := fun hb => by rw [hne _ _ (by omega)] at hb; rw [getD_put (by rw [h.tsz]; omega), if_neg (by omega)]; exact h.t1 hb
      t11 := fun hb => by rw [getD_put (by rw [h.tsz]; omega), if_neg (by omega)]; exact h.t11 l0
      t0 := fun hb => by rw [getD_put (by rw [h.tsz]; omega), if_pos rfl]
      none_ := fun hb => by
        rw [hne _ _ (by omega)] at hb
        obtain ⟨h1, h2⟩ := h.none_ hb
        exact ⟨h1, fun j' hj' => by rw [hne _ _ (by omega)]; exact h2 j' hj'⟩
      kb := by have := h.kb; omega
      some_ := fun hb => by
        rw [hne _ _ (by omega)] at hb
        obtain ⟨n, D, h1, h2, h3, h4, h5⟩ := h.some_ hb
        exact ⟨n, D, h1, by omega, h3, fun j' hj' hb' => by rw [hne _ _ (by omega)] at hb'; exact h4 j' hj' hb', h5⟩ }
theorem listed_of {ops : Array Oper} {listed : Array Bool} {j : Nat} (hsz : listed.size = 21) (hj : j < 21) (hr : Region.ready .any ops listed = []) {o : Oper} (ho : ops[j]? = some o) {p : Edge → Bool} (hp : o.after.all p = true)
    (h : ∀ e, p e = true → listed.getD e.on false = true) : listed.getD j false = true := by
  cases hl : listed.getD j false with
  | true => rfl
  | false =>
    have : j ∈ Region.ready .any ops listed := mem_ready.2 ⟨by rw [getD_df (by omega)]; exact hl, o, ho, fun e he _ => h e (by
      have := Array.all_eq_true_iff_forall_mem.1 hp e he; exact this)⟩
    rw [hr] at this
    cases this
theorem all_listed {w0 : World} {ops : Array Oper} (O : SignOps ops) {k : Nat} {listed : Array Bool} {a : Act} {w : World} (h : SI w0 k listed a w) (hr : Region.ready .any ops listed = []) : ∀ j, j < 21 → listed.getD j false = true := by
  have h0 : listed.getD 0 false = true := by
    obtain ⟨ty, pos, af, hop, hall⟩ := O.mk0
    exact listed_of h.sz (by omega) hr hop hall (fun e he => by cases he)
  have h1 : ∀ j, j < 9 → listed.getD (2 * j + 1) false = true := fun j hj => by
    obtain ⟨ty, pos, af, hop, hall⟩ := O.bld j hj
    exact listed_of h.sz (by omega) hr hop hall (fun e he => by cases he)
  have h2 : ∀ j, j < 9 → listed.getD (2 * j + 2) false = true := fun j hj => by
    obtain ⟨ty, pos, af, hop, _, _, hall⟩ := O.ins j hj
    exact listed_of h.sz (by omega) hr hop hall (fun e he => by
      rcases of_decide_eq_true he with h | h
      · rw [h]; exact h0
      · rw [h]; exact h1 j hj)
  have h3 : ∀ j, j < 19 → listed.getD j false = true := fun j hj => by
    by_cases e0 : j = 0
    · rw [e0]; exact h0
    rcases Nat.mod_two_eq_zero_or_one j with hm | hm
    · have := h2 (j / 2 - 1) (by omega); rw [show 2 * (j / 2 - 1) + 2 = j by omega] at this; exact this
    · have := h1 (j / 2) (by omega); rw [show 2 * (j / 2) + 1 = j by omega] at this; exact this
  have h4 : listed.getD 19 false = true := by
    obtain ⟨ty, pos, af, hop, _, hall⟩ := O.mv
    exact listed_of h.sz (by omega) hr hop hall (fun e he => h3 _ (of_decide_eq_true he))
  have h5 : ∀ j, j < 20 → listed.getD j false = true := fun j hj => by
    by_cases e : j = 19
    · rw [e]; exact h4
    · exact h3 j (by omega)
  have h6 : listed.getD 20 false = true := by
    obtain ⟨ty, pos, af, hop, _, hall⟩ := O.asg
    exact listed_of h.sz (by omega) hr hop hall (fun e he => h5 _ (of_decide_eq_true he))
  intro j hj
  by_cases e : j = 20
  · rw [e]; exact h6
  · exact h5 j (by omega)

theorem nodup_len : ∀ (n : Nat) (l : List Nat), l.Nodup → (∀ i ∈ l, i < n) → l.length ≤ n
  | 0, l, _, h => by
    cases l with
    | nil => exact Nat.le_refl _
    | cons a t => exact absurd (h a (.head _)) (by omega)
  | n + 1, l, hn, h => by
    have h1 := nodup_len n (l.erase n) (hn.erase n) (fun i hi => by
      have h2 := h i (List.mem_of_mem_erase hi)
      have h3 : i ≠ n := fun e => by subst e; exact absurd hi (hn.not_mem_erase)
      omega)
    have h4 : l.length ≤ (l.erase n).length + 1 := by
      rw [List.length_erase]; split <;> omega
    omega
/-- The map of the nine signs in block b. -/
def HasSigns (b : Nat) (w : World) : Prop := ∃ (n : Nat) (D : DataW Unit), w.ownsMap Tryd.prog 68 (plainElem Tryd.prog 3) b n D ∧
  ∀ c d : UInt8, D.atKey (pairKey c d) (.lit (.int .i64 0)) = .lit (.int .i64 (if (c, d) ∈ twos then 2 else 0))
theorem reads_signs {listed : Array Bool} {D : DataW Unit} (h : Reads listed D) (hl : ∀ j, j < 21 → listed.getD j false = true) (c d : UInt8) :
    D.atKey (pairKey c d) (.lit (.int .i64 0)) = .lit (.int .i64 (if (c, d) ∈ twos then 2 else 0)) := by
  by_cases hm : (c, d) ∈ twos
  · rw [if_pos hm]
    obtain ⟨j, hj, he⟩ := List.getElem_of_mem hm
    have hj9 : j < 9 := hj
    have hk : pairKey c d = keyAt j := by
      unfold keyAt sc sd
      rw [List.getD_eq_getElem?_getD, List.getElem?_eq_getElem hj, he]; rfl
    rw [hk]
    exact h.2.1 j hj9 (hl _ (by omega))
  · rw [if_neg hm]
    refine h.2.2 _ fun j hj e => hm ?_
    unfold keyAt pairKey at e
    injection e with e
    injection e with e1 e2
    injection e2 with e2 _
    rw [e1, e2]
    have : twos.getD j (0, 0) ∈ twos := by
      rw [List.getD_eq_getElem?_getD, List.getElem?_eq_getElem (show j < twos.length from hj)]
      exact List.getElem_mem _
    exact this

set_option maxHeartbeats 4000000 in
set_option maxRecDepth 100000 in
theorem signs_any (w : World) : Calls Tryd.prog 34 #[] w fun e w' => e = .returned (.map (some w.heap.size)) ∧ Below w.heap.size w w' ∧ HasSigns w.heap.size w' := by
  go_enter Tryd.func34, Tryd.ntmps34
  go_wp2
  rename_i Q' K hK
  refine wp_region_any (by kernel_rfl) ?_
  generalize hops : (#[_, _, _, _, _, _, _, _, _, _, _, _, _, _, _, _, _, _, _, _, _] : Array Oper) = ops
  have O : SignOps ops := by
    subst hops
    refine ⟨rfl, ⟨_, _, _, rfl, by simp⟩, fun j hj => ?_, fun j hj => ?_, ⟨_, _, _, rfl, ⟨_, ⟨.head _⟩, rfl, rfl⟩, by simp⟩, ⟨_, _, _, rfl, ⟨_, ⟨.head _⟩, rfl, rfl⟩, by simp⟩⟩
    · match j, hj with
      | 0, _ | 1, _ | 2, _ | 3, _ | 4, _ | 5, _ | 6, _ | 7, _ | 8, _ => exact ⟨_, _, _, rfl, by simp⟩
    · match j, hj with
      | 0, _ | 1, _ | 2, _ | 3, _ | 4, _ | 5, _ | 6, _ | 7, _ | 8, _ => exact ⟨_, _, _, rfl, ⟨_, ⟨.head _⟩, rfl, rfl⟩, ⟨_, ⟨.tail _ (.head _)⟩, rfl, rfl⟩, by simp⟩
  clear hops
  rw [O.sz]
  refine wpAny_inv (SI w) (fun k l a w' i h hi => SI.step O k l a w' i h hi) (fun l a w' h => ?_) (fun k l a w' h hr => ?_) 21 _ _ _ ?_
  · cases hr : Region.ready .any ops l with
    | nil => rfl
    | cons i r =>
      exfalso
      have hi : i ∈ Region.ready .any ops l := by rw [hr]; exact .head _
      obtain ⟨h1, o, ho, _⟩ := mem_ready.1 hi
      have h2 : i < 21 := by have := (Array.getElem?_eq_some_iff.1 ho).1; rw [O.sz] at this; exact this
      have := h.room [i] (by simp) (fun j hj => by rw [List.mem_singleton] at hj; subst hj; exact ⟨h2, h1⟩)
      simp at this
  · have hall := all_listed O h hr
    obtain ⟨n, D, hown, _, hreads⟩ := h.some_ (hall 0 (by omega))
    have h0 := h.t0 (hall 20 (by omega))
    refine hK a w' (wp_ret ?_)
    refine bodyPost_ret (v := .map (some w.heap.size)) ?_ h.df ⟨rfl, h.bel, n, D, hown, reads_signs hreads hall⟩
    have h0' : a.tmps[0]?.getD undef = .map (some w.heap.size) := by rw [← h0]; exact (Array.getD_eq_getD_getElem? ..).symm
    simp [results, Tryd.results34, go_sem, h0']
  · exact {
      room := fun l hn hl => by
        exact nodup_len 21 l hn (fun i hi => (hl i hi).1)
      sz := by simp, df := rfl, tsz := rfl, bel := below_drew (Below.refl _ _)
      bd := fun j hj hb => by simp [Array.getD] at hb
      t1 := fun hb => by simp [Array.getD] at hb
      t11 := fun hb => by simp [Array.getD] at hb
      t0 := fun hb => by simp [Array.getD] at hb
      none_ := fun _ => ⟨rfl, fun j hj => by simp [Array.getD]⟩
      kb := by omega
      some_ := fun hb => by simp [Array.getD] at hb }
end Go.Proofs.YtjegaejdphmdgaaDoor.Print
