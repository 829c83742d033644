/-
  What the lexer's callees in Go's library do, as contracts in the print's form: 'Laid w': the variables of the library's that they read hold what their initialisers lay.
-/
import Derived.Test.YtjegaejdphmdgaaDoorProg
import Derived.Test.YtjegaejdphmdgaaDoorShelf
import Derived.Test.YtjegaejdphmdgaaDoorWWords
import Derived.Test.YtjegaejdphmdgaaDoorSpec
import Derived.Test.YtjegaejdphmdgaaDoorParse
import Derived.Shelf.Strings.CaseAny
import Derived.Lib.Index
import Derived.Lib.Bytealg
import Derived.WalkKit
namespace Go.Proofs.YtjegaejdphmdgaaDoor.Print
open Go.RowKit Go.Lib Go.Proofs.YtjegaejdphmdgaaDoorW.PrintWords Go.Proofs.YtjegaejdphmdgaaDoor.LexP
set_option linter.unusedVariables false

structure Laid (w : World) : Prop where
  maxLen : ∃ m, w.cell? ⟨0, 0, none⟩ = some (.int .i64 m)
  ascii : Lib.TabIs Tryd.prog w "strings.asciiSpace" .u8 Lib.asciiSpaceTab
  cases : CaseVar 2 caseA w
  utf8 : Lib.Utf8Tabs 6 7 w
  errS : ∃ te pe, w.cell? ⟨3, 0, none⟩ = some (.iface te pe)
  errR : ∃ te pe, w.cell? ⟨4, 0, none⟩ = some (.iface te pe)
theorem ascii_below {w w' : World} {zs : List Int} (h : Lib.TabIs Tryd.prog w "strings.asciiSpace" .u8 zs) (hb : Below w.heap.size w w') : Lib.TabIs Tryd.prog w' "strings.asciiSpace" .u8 zs := by
  have hgn : Tryd.prog.globalNamed "strings.asciiSpace" = some 1 := by kernel_rfl
  unfold Lib.TabIs World.var? at h ⊢
  rw [hgn] at h ⊢
  simp only [Option.bind_some] at h ⊢
  have hlt : 1 < w.heap.size := by
    rcases Nat.lt_or_ge 1 w.heap.size with h' | h'
    · exact h'
    · rw [Array.getElem?_eq_none h'] at h; cases h
  rw [hb.block 1 hlt]
  exact h
theorem Laid.below {w w' : World} (h : Laid w) (hb : Below w.heap.size w w') : Laid w' where
  maxLen := by obtain ⟨m, hm⟩ := h.maxLen; exact ⟨m, pw_cell_below hb hm⟩
  ascii := ascii_below h.ascii hb
  cases := CaseVar_below h.cases hb
  utf8 := Utf8Tabs_below h.utf8 hb
  errS := by obtain ⟨a, b, hm⟩ := h.errS; exact ⟨a, b, pw_cell_below hb hm⟩
  errR := by obtain ⟨a, b, hm⟩ := h.errR; exact ⟨a, b, pw_cell_below hb hm⟩
theorem Laid.alloc {w : World} {o : Obj} (h : Laid w) : Laid (w.alloc o) := h.below (below_alloc (Below.refl _ _) o)
theorem Laid.drewN {w : World} {n : Nat} (h : Laid w) : Laid (w.drewN n) := h.below (pw_below_drewN (Below.refl _ _) n)
theorem Laid.drew {w : World} (h : Laid w) : Laid w.drew := h.below (below_drew (Below.refl _ _))

theorem d0 (w : World) : Drawn0 w w := Drawn0.refl w
def strings_IndexByte.f (a0 : ByteArray) (a1 : Int) : Option Int := some (Lib.indexByte a0.data.toList a1.toNat.toUInt8)
theorem strings_IndexByte.calls (a0 : ByteArray) (a1 : Int) (r : Int) (w : World) (hL : Laid w) (h : strings_IndexByte.f a0 a1 = some r) :
    Calls Tryd.prog 27 #[.string a0, .int .u8 a1] w fun e w' => e = .returned (.int .i64 r) ∧ Drawn0 w w' := by
  obtain rfl := Option.some.inj h
  exact (Tryd.strings_IndexByte a0 a1 w).mono fun e w' ⟨he, hw⟩ => ⟨he, hw ▸ d0 w⟩
def strings_Index.f (a0 a1 : ByteArray) : Option Int := if a0.size < 4294967281 then some (Lib.index a0.data.toList a1.data.toList) else none
theorem strings_Index.calls (a0 a1 : ByteArray) (r : Int) (w : World) (hL : Laid w) (h : strings_Index.f a0 a1 = some r) :
    Calls Tryd.prog 29 #[.string a0, .string a1] w fun e w' => e = .returned (.int .i64 r) ∧ Drawn0 w w' := by
  unfold strings_Index.f at h
  split at h
  · obtain rfl := Option.some.inj h
    obtain ⟨m, hm⟩ := hL.maxLen
    exact (Tryd.strings_Index a0 a1 m w (by assumption) hm).mono fun e w' ⟨he, hw⟩ => ⟨he, hw ▸ d0 w⟩
  · cases h
def strings_Contains.f (a0 a1 : ByteArray) : Option Bool := match a1 with | ⟨⟨[c]⟩⟩ => some (decide (0 ≤ Lib.indexByte a0.data.toList c)) | _ => none
theorem strings_Contains.calls (a0 a1 : ByteArray) (r : Bool) (w : World) (hL : Laid w) (h : strings_Contains.f a0 a1 = some r) :
    Calls Tryd.prog 21 #[.string a0, .string a1] w fun e w' => e = .returned (.bool r) ∧ Drawn0 w w' := by
  unfold strings_Contains.f at h
  split at h
  · obtain rfl := Option.some.inj h
    exact (Tryd.strings_Contains_one a0 _ w).mono fun e w' ⟨he, hw⟩ => ⟨he, hw ▸ d0 w⟩
  · cases h
def strings_ToLower.f (a0 : ByteArray) : Option ByteArray := if a0.size < 35184372088832 then some ⟨(Lib.toLowerD a0.data.toList).toArray⟩ else none
theorem strings_ToLower.calls (a0 : ByteArray) (r : ByteArray) (w : World) (hL : Laid w) (h : strings_ToLower.f a0 = some r) :
    Calls Tryd.prog 22 #[.string a0] w fun e w' => e = .returned (.string r) ∧ Below w.heap.size w w' := by
  unfold strings_ToLower.f at h
  split at h
  · obtain rfl := Option.some.inj h
    exact Tryd.strings_ToLower_any a0 w (by assumption) hL.cases hL.utf8
  · cases h

/-- What strconv.ParseUint(s, 10 | 16, 63) hands back: the number and none, or some. -/
def pRes (a0 : ByteArray) (a1 : Int) : NumEnd Int := if a0.size = 0 then NumEnd.syntax else pU a1 0 a0.data.toList
def endOf : NumEnd Int → Int × Option Int
  | .ok n => (n, none)
  | NumEnd.syntax => (0, some 2)
  | .range => (9223372036854775807, some 1)
def strconv_ParseUint.f (a0 : ByteArray) (a1 a2 : Int) : Option (Int × Option Int) :=
  if (a1 = 10 ∨ a1 = 16) ∧ a2 = 63 ∧ a0.size ≤ 140737488351232 then some (endOf (pRes a0 a1)) else none
def ErrRet (r1 : Int) (r2 : Option Int) (e : Ending) : Prop :=
  match r2 with
  | none => e = .returned (.tuple #[.int .u64 r1, .nilIface])
  | some _ => ∃ te pe, e = .returned (.tuple #[.int .u64 r1, .iface te pe])

set_option maxRecDepth 100000 in
theorem inner (a0 : ByteArray) (a1 : Int) (w : World) (h1 : a1 = 10 ∨ a1 = 16) (h3 : a0.size ≤ 140737488351232) :
    Calls Tryd.prog 44 #[.string a0, .int .i64 a1, .int .i64 63] w fun e w' => e = .returned (uTup (pRes a0 a1)) ∧ Below w.heap.size w w' := by
  by_cases hz : a0.size = 0
  · have he : a0 = ⟨#[]⟩ := by
      obtain ⟨⟨l⟩⟩ := a0
      have : l = [] := List.eq_nil_of_length_eq_zero hz
      rw [this]
    subst he
    clear hz h3
    rcases h1 with rfl | rfl
    all_goals
      go_enter Tryd.func44, Tryd.ntmps44
      go_wp2
      go_ret2
      exact ⟨rfl, Below.refl _ _⟩
  · rcases h1 with rfl | rfl
    · refine (inner_10 a0 hz (by omega) w).mono fun e w' ⟨he, hw⟩ => ⟨?_, ?_⟩
      · rw [he, pRes, if_neg hz]
      · rw [hw]; exact ⟨rfl, rfl, rfl, by rw [Lib.bytesWorld_size]; omega, fun k hk => Lib.bytesWorld_at_old w 5 a0 k hk⟩
    · refine (inner_16 a0 hz (by omega) w).mono fun e w' ⟨he, hw⟩ => ⟨?_, ?_⟩
      · rw [he, pRes, if_neg hz]
      · rw [hw]; exact ⟨rfl, rfl, rfl, by rw [Lib.bytesWorld_size]; omega, fun k hk => Lib.bytesWorld_at_old w 5 a0 k hk⟩

set_option maxHeartbeats 800000 in
theorem strconv_ParseUint.calls (a0 : ByteArray) (a1 a2 : Int) (r1 : Int) (r2 : Option Int) (w : World) (hL : Laid w) (h : strconv_ParseUint.f a0 a1 a2 = some (r1, r2)) :
    Calls Tryd.prog 24 #[.string a0, .int .i64 a1, .int .i64 a2] w fun e w' => ErrRet r1 r2 e ∧ Below w.heap.size w w' := by
  unfold strconv_ParseUint.f at h
  split at h
  · rename_i hc
    obtain ⟨h1, rfl, h3⟩ := hc
    have h := Option.some.inj h
    have hi := inner a0 a1 w h1 h3
    clear h1
    cases hp : pRes a0 a1 with
    | ok n =>
      rw [hp] at h hi
      simp only [endOf, Prod.mk.injEq] at h
      obtain ⟨rfl, rfl⟩ := h
      clear hp
      go_enter Tryd.func24, Tryd.ntmps24
      go_wp2_with (go_at_call 44; refine hi.mono ?_; rintro e w1 ⟨rfl, hb⟩; unfold uTup)
      go_ret2
      exact ⟨rfl, hb⟩
    | range =>
      rw [hp] at h hi
      simp only [endOf, Prod.mk.injEq] at h
      obtain ⟨rfl, rfl⟩ := h
      clear hp
      obtain ⟨te, pe, hS⟩ := hL.errR
      have HS := Lib.hid hS
      clear hS hL
      go_enter Tryd.func24, Tryd.ntmps24
      go_wp2_with (first | (go_at_call 44; refine hi.mono ?_; rintro e w1 ⟨rfl, hb⟩; unfold uTup) | (go_at_call 45; refine (Tryd.strconv_toError_range _ _ _ _ (.iface te pe) _ (by omega) (pw_cell_below (by assumption) HS.out) (.inr ⟨te, pe, rfl⟩)).mono ?_; rintro e w2 ⟨N, rfl, hN, hC, hb2⟩))
      go_ret2
      exact ⟨⟨_, _, rfl⟩, hb.trans (hb2.mono hb.size)⟩
    | _ =>
      rw [hp] at h hi
      simp only [endOf, Prod.mk.injEq] at h
      obtain ⟨rfl, rfl⟩ := h
      clear hp
      obtain ⟨te, pe, hS⟩ := hL.errS
      have HS := Lib.hid hS
      clear hS hL
      go_enter Tryd.func24, Tryd.ntmps24
      go_wp2_with (first | (go_at_call 44; refine hi.mono ?_; rintro e w1 ⟨rfl, hb⟩; unfold uTup) | (go_at_call 45; refine (Tryd.strconv_toError_syntax _ _ _ _ (.iface te pe) _ (by omega) (pw_cell_below (by assumption) HS.out) (.inr ⟨te, pe, rfl⟩)).mono ?_; rintro e w2 ⟨N, rfl, hN, hC, hb2⟩))
      go_ret2
      exact ⟨⟨_, _, rfl⟩, hb.trans (hb2.mono hb.size)⟩
  · cases h
end Go.Proofs.YtjegaejdphmdgaaDoor.Print
