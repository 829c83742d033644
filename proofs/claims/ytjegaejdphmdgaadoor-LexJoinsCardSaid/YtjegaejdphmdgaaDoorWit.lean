/-
  What the rows list of the library's variables: the witness world that holds it, and what it gives the walks ('Laid').
-/
import Derived.Test.YtjegaejdphmdgaaDoorRows
import Derived.Test.YtjegaejdphmdgaaDoorGiven
import Derived.Lay
import Derived.PinnedBridge
import Derived.Lib.LaidTab
import Derived.Lib.LaidCaseMet
import Derived.Stop.LaidErr
import Derived.Shelf.Vars
import Derived.ProofKit
import Derived.OpenShut
import Derived.LaidMore
import Derived.LaidSub
import Derived.Deep.DeepHandedRow
namespace Go.Proofs.YtjegaejdphmdgaaDoor.Wit
open Go.RowKit Go.Lib Go.Proofs.YtjegaejdphmdgaaDoor.Print
set_option linter.unusedVariables false

abbrev laid : List (String × DataW Unit) := Rows.lexReadsRow.laid
theorem plain : ∀ {W : World}, laidMetH Tryd.prog laid W → laidMet Tryd.prog laid W := fun h => by
  rw [MakeChecks.laidMetH_plain _ _ _ (by kernel_rfl)] at h
  exact h
theorem fits (os : Os) : (World.holding Tryd.prog os ⟨#[], #[], []⟩).layFits Tryd.prog laid [] = true := by kernel_rfl
theorem ifaces (os : Os) : (World.holding Tryd.prog os ⟨#[], #[], []⟩).layIfaces Tryd.prog laid (World.laidAll Tryd.prog os laid) = true := by kernel_rfl
theorem met (os : Os) (args : Array Value) : laidMetH Tryd.prog laid ((World.laidAll Tryd.prog os laid).forCall (fun _ _ => 0) ⟨#[], args, []⟩).memory := by
  rw [MakeChecks.laidMetH_plain _ _ _ (by kernel_rfl)]
  exact laidMet_laidAll _ (fits os) (ifaces os)
theorem reads {W : World} (h : laidMet Tryd.prog laid W) (n : String) (d : DataW Unit) (hm : (n, d) ∈ laid) : VarReads Tryd.prog W n d := Lib.laidMet.reads h hm
theorem iface_cell {W : World} {n nm : String} {d : DataW Unit} {g : Nat} (h : VarReads Tryd.prog W n (.iface nm d)) (hg : Tryd.prog.globalNamed n = some g) (ht : (Tryd.prog.globals[g]?).map (·.type) = some 55) :
    ∃ te pe, W.cell? ⟨g, 0, none⟩ = some (.iface te pe) := by
  obtain ⟨g0, t0, cs, fuel, p, hg0, ht0, hv, hd⟩ := h
  obtain rfl := Option.some.inj (hg.symm.trans hg0)
  obtain rfl := Option.some.inj (ht.symm.trans ht0)
  obtain ⟨f1, u, v, e, _, _⟩ := iface_of_trod Tryd.underlying55 hd
  refine ⟨u, v, ?_⟩
  have := World.var?_cell hg hv 0
  rw [Array.eq_one_of_toList e] at this
  simpa using this
theorem g1 : Tryd.prog.globalNamed "strings.asciiSpace" = some 1 := by kernel_rfl
theorem cells5 : Tryd.prog.cellsOf 5 = 1 := by kernel_rfl
theorem cells97 : Tryd.prog.cellsOf 97 = 256 := by kernel_rfl
theorem of_laid {W : World} (hL0 : laidMetH Tryd.prog laid W) (hsh : W.ShapedOpen Tryd.prog) : Laid W := by
  have hL := plain hL0
  have hcase : VarReads Tryd.prog W "unicode.CaseRanges" caseData := by
    rw [← Pinned.caseRanges_eq]
    exact reads hL _ _ (by simp [laid, Rows.lexReadsRow, Rows.laid_unicode_CaseRanges])
  have hfirst : VarReads Tryd.prog W "unicode/utf8.first" firstData := by
    rw [← Pinned.utf8First_eq]
    exact reads hL _ _ (by simp [laid, Rows.lexReadsRow, Rows.laid_unicode_utf8_first])
  have hacc : VarReads Tryd.prog W "unicode/utf8.acceptRanges" acceptData := by
    have : acceptData = Rows.laid_unicode_utf8_acceptRanges := by kernel_rfl
    rw [this]
    exact reads hL _ _ (by simp [laid, Rows.lexReadsRow])
  refine ⟨?_, ?_, ?_, ?_, ?_, ?_⟩
  · exact cell_of_shapedOpen_int (P := Tryd.prog) (t := 3) (k := .i64) hsh (of_decide_eq_true (by kernel_rfl)) (zero := #[.int .i64 0]) (by kernel_rfl) rfl (by kernel_rfl) (by kernel_rfl) Tryd.underlying3
  · have h8 : laidMet Tryd.prog [("strings.asciiSpace", tabData .u8 asciiSpaceTab)] W := by
      have e : laid.filter (fun x => x.1 == "strings.asciiSpace") = [("strings.asciiSpace", tabData .u8 asciiSpaceTab)] := by kernel_rfl
      rw [← e]
      exact hL.filter _
    exact tabIs_of_head g1 (by kernel_rfl) Tryd.underlying97 Tryd.underlying5 cells5 cells97 h8
  · exact caseVar_of_reads { Tryd.lays159 with } Tryd.lays159.t206 ⟨by kernel_rfl, by kernel_rfl, by kernel_rfl, by kernel_rfl, by kernel_rfl, by kernel_rfl⟩ hcase
  · exact utf8Tabs_of_reads (P := Tryd.prog) (ρ := Tryd.lays159_ren) { Tryd.lays159 with } ⟨by kernel_rfl, by kernel_rfl, by kernel_rfl, by kernel_rfl, by kernel_rfl, by kernel_rfl, by kernel_rfl⟩ hfirst hacc
  · exact iface_cell (g := 3) (reads hL "strconv.ErrSyntax" Rows.laid_strconv_ErrSyntax (by simp [laid, Rows.lexReadsRow])) (by kernel_rfl) (by kernel_rfl)
  · exact iface_cell (g := 4) (reads hL "strconv.ErrRange" Rows.laid_strconv_ErrRange (by simp [laid, Rows.lexReadsRow])) (by kernel_rfl) (by kernel_rfl)
end Go.Proofs.YtjegaejdphmdgaaDoor.Wit
