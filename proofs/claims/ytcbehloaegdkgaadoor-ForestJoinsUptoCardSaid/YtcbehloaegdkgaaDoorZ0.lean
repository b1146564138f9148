/- The rows' common end: the tables in the world; a law's row; its card. -/
import Derived.Test.YtcbehloaegdkgaaDoorF11
import Derived.Test.YtcbehloaegdkgaaDoorG2
import Derived.Test.YtcbehloaegdkgaaDoorCards
import Derived.Test.YtcbehloaegdkgaaDoorTie
import Derived.Lay
import Derived.PinnedBridge
import Derived.Lib.LaidU8
set_option linter.unusedVariables false
set_option linter.unusedSimpArgs false
namespace Go.Proofs.YtcbehloaegdkgaaDoor
open Go Go.Abs Go.ChangeShapes Go.RowKit

theorem tabs_of {W : World} (h : Lib.Utf8Tabs 0 1 W) : Tabs W := by
  have e : ∀ {b o : Nat} {v : Value} {Z : Nat → Prop} {w : World}, Base W Z w → W.cell? ⟨b, o, none⟩ = some v → w.cell? ⟨b, o, none⟩ = some v := by
    intro b o v Z w hb hc
    rw [cell_of_block (hb.evo.block b (cell_some hc).2)]; exact hc
  intro Z w hb
  exact ⟨fun c hc => e hb (h.1 c hc), fun i hi => ⟨e hb (h.2 i hi).1, e hb (h.2 i hi).2⟩⟩

theorem u8extra : U8Extra Tryd.prog Tryd.lays197_ren := ⟨by kernel_rfl, by kernel_rfl, by kernel_rfl, by kernel_rfl, by kernel_rfl, by kernel_rfl, by kernel_rfl⟩
def laidTabs : List (String × DataW Unit) := [("unicode/utf8.acceptRanges", Rows.laid_unicode_utf8_acceptRanges), ("unicode/utf8.first", Rows.laid_unicode_utf8_first)]
theorem accept_eq : Rows.laid_unicode_utf8_acceptRanges (H := Unit) = Lib.acceptData := by kernel_rfl
theorem tabs_of_laid {W : World} (hL : laidMetH Tryd.prog laidTabs W) : Tabs W := by
  rw [MakeChecks.laidMetH_plain _ _ _ (by kernel_rfl)] at hL
  have h1 : Lib.VarReads Tryd.prog W "unicode/utf8.acceptRanges" Rows.laid_unicode_utf8_acceptRanges := Lib.laidMet.reads hL (List.Mem.head _)
  have h2 : Lib.VarReads Tryd.prog W "unicode/utf8.first" Rows.laid_unicode_utf8_first := Lib.laidMet.reads hL (List.Mem.tail _ (List.Mem.head _))
  rw [accept_eq] at h1
  rw [show Rows.laid_unicode_utf8_first = Lib.firstData from Pinned.utf8First_eq] at h2
  exact tabs_of (utf8Tabs_of_reads { Tryd.lays197 with } u8extra h2 h1)

theorem own : ownKnob Tryd.prog.godebug = none := by kernel_rfl
theorem laidOut : laidOutB Tryd.prog = true := by kernel_rfl
theorem laid_met (os : Os) (args : Array Value) : laidMet Tryd.prog laidTabs (((World.laidAll Tryd.prog os laidTabs).forCall (fun _ _ => 0) ⟨#[], args, []⟩).memory) :=
  laidMet_laidAll _ (by kernel_rfl) (by kernel_rfl)
end Go.Proofs.YtcbehloaegdkgaaDoor
