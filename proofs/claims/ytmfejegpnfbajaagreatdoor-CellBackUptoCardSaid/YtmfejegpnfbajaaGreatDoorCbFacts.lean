/-
  The row's closed facts.
-/
import Derived.Test.YtmfejegpnfbajaaGreatDoorCards
import Derived.Test.YtmfejegpnfbajaaGreatDoorTie
import Derived.ProofKit
import Derived.Deep.DeepHandedRow
namespace Go.Proofs.YtmfejegpnfbajaaGreatDoor
namespace Cb
open Go.ChangeShapes Go.WideShapes Go.ChangeAt Go.RowKit

theorem facts : joinedFacts Tryz.prog 4 Tryz.f4 (Rows.OpenSpec.upto Rows.cellBackSpec).bare Rows.cellBackUptoRow = true := by kernel_rfl
theorem named4 : Tryz.pinned.checked.prog.funcNamed Rows.cellBackUptoRow.func = some 4 := by kernel_rfl
end Cb
end Go.Proofs.YtmfejegpnfbajaaGreatDoor
