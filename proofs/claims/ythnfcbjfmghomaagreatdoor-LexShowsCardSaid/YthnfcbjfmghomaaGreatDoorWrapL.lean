/- What a row's condition gives: the library's variables. No condition. -/
import Derived.Test.YthnfcbjfmghomaaGreatDoorLexO
import Derived.Test.YthnfcbjfmghomaaGreatDoorRows
import Derived.Lib.LaidU8
import Derived.Deep.DeepHandedRow
import Derived.Deep.DeepWitnessRowRef
import Derived.ProofKit
import Derived.SizedLaws
import Derived.LaidMore
import Derived.LaidHandle
namespace Go.Proofs.YthnfcbjfmghomaaGreatDoor
open Go.Lift Go.Lex
theorem own : ownKnob Tryz.prog.godebug = none := by kernel_rfl
theorem first_eq : Go.Pinned.utf8First = Lib.firstData := by kernel_rfl
theorem accept_eq : (Rows.laid_unicode_utf8_acceptRanges : DataW Unit) = Lib.acceptData := by kernel_rfl
theorem globs {W : World} (hL : laidMetH Tryz.prog Rows.lexWordsRow.laid W) (hS : W.ShapedOpen Tryz.prog) : Glob W := by
  have hL := hL
  rw [MakeChecks.laidMetH_plain _ _ _ (by kernel_rfl)] at hL
  refine ⟨Go.Proofs.cell_of_shapedOpen_int (zero := #[.int .i64 0]) (t := 3) hS (of_decide_eq_true (by kernel_rfl)) (by kernel_rfl) rfl (by kernel_rfl) (by kernel_rfl) Tryz.underlying3, ?_⟩
  refine utf8Tabs_of_reads Tryz.lays260 ⟨by kernel_rfl, by kernel_rfl, by kernel_rfl, by kernel_rfl, by kernel_rfl, by kernel_rfl, by kernel_rfl⟩ ?_ ?_
  · rw [← first_eq]
    exact Lib.laidMet.reads hL (List.mem_of_getElem? (i := 6) rfl)
  · rw [← accept_eq]
    exact Lib.laidMet.reads hL (List.mem_of_getElem? (i := 3) rfl)
noncomputable def doorWorld (os : Os) : World :=
  let w0 := World.doorLaid Tryz.prog 72 os
  { w0 with heap := w0.heap.modify 1 fun
      | .cells _ t frozen => .cells (Lib.firstTab.map fun z => Value.int .u8 z).toArray t frozen
      | o => o }
theorem door_met (os : Os) (args : Array Value) : laidMetH Tryz.prog Rows.lexWordsRow.laid ((doorWorld os).forCall (fun _ _ => 0) ⟨#[], args, []⟩).memory :=
  laidMetH_of_parts3 (fuel := 8) (laidMet_of_run' 8 (by kernel_rfl) (by kernel_rfl)) (by kernel_rfl) (by kernel_rfl)
end Go.Proofs.YthnfcbjfmghomaaGreatDoor
