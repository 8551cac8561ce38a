/-
  The witness, the row, the card.
-/
import Derived.Test.YtmfejegpnfbajaaGreatDoorCbCard
namespace Go.Proofs.YtmfejegpnfbajaaGreatDoor
namespace Cb
open Go.ChangeShapes Go.WideShapes Go.ChangeAt Go.RowKit

/-- What is listed but the handle. -/
noncomputable def plainLaid : List (String × DataW Unit) := Rows.cellBackUptoRow.laid.filter fun x => x.2.handleName?.isNone

/-- A world that meets the condition: the listed variables laid, the handle behind them. -/
noncomputable def laidWorld (os : Os) : World :=
  let w0 := World.laidAll Tryz.prog os plainLaid
  { w0 with heap := w0.heap.modify 0 fun
      | .cells _ t frozen => .cells #[.iface 180 (.agg #[.pointer (some ⟨12, 29, none⟩)])] t frozen
      | o => o }

def args0 : Array Value := #[.agg #[.int .i64 0, .slice none 0 0], .string ⟨#[]⟩]

theorem laid_met (os : Os) : laidMetH Tryz.prog Rows.cellBackUptoRow.laid ((laidWorld os).forCall (fun _ _ => 0) ⟨#[], args0, []⟩).memory :=
  laidMetH_of_parts (laidMet_of_run' 8 (by kernel_rfl) (by kernel_rfl)) (by kernel_rfl)

theorem reads (os : Os) {H : Type} (enc : TypeId × Value → H) : ∃ places, DataW.whole enc Tryz.prog ((laidWorld os).forCall (fun _ _ => 0) ⟨#[], args0, []⟩).memory Tryz.f4.params.toList Rows.cellBackSpec.vars false args0.toList 8 = some ([.agg [.lit (.int .i64 0), .nil], .lit (.string [])], [], places) :=
  ⟨[], by kernel_rfl⟩

end Cb
end Go.Proofs.YtmfejegpnfbajaaGreatDoor
