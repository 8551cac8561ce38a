/-
  The row's lift.
-/
import Derived.Test.YtmfejegpnfbajaaGreatDoorCbEnd
namespace Go.Proofs.YtmfejegpnfbajaaGreatDoor
namespace Cb
open Go.ChangeShapes Go.WideShapes Go.ChangeAt Go.RowKit

theorem laidWorld_os (os : Os) : (laidWorld os).os = os := by
  have h := World.laidAll_os Tryz.prog os plainLaid
  unfold laidWorld
  generalize World.laidAll Tryz.prog os plainLaid = w at h ⊢
  exact h

set_option maxRecDepth 100000 in
theorem liftedUpto (os : Os) (started : os.Started) (H : Type) (enc : TypeId × Value → H) (F : Stop.Interp) :
    ReturnsInHanded {} Tryz.checked os 4 .any ((Rows.OpenSpec.upto Rows.cellBackSpec).preRow enc Tryz.prog Tryz.f4 Rows.cellBackUptoRow.domain false Rows.cellBackUptoRow.laid) (((Rows.OpenSpec.upto Rows.cellBackSpec).at F).post enc Tryz.prog Tryz.f4 false true false false) := by
  obtain ⟨places, hx⟩ := reads os enc
  refine returnsInHanded_of_row (C := Tryz.checked) (s := Rows.OpenSpec.upto Rows.cellBackSpec) own started (by kernel_rfl) Tryz.func4
    (witness_row_atRef (enc := enc) (C := Tryz.checked) false (laidWorld os) args0 (laidWorld_os os) (by kernel_rfl) (by kernel_rfl) (by kernel_rfl)
      (OpenSpec.preRow_of_cond 8 hx (by kernel_rfl) (fun k hk => by cases hk; kernel_rfl) (by kernel_rfl) (laid_met os))) ?_
  intro W base args ds gs before hval hW _ hcond _ hL hS _
  exact contract H enc W base args ds gs before hval hW (by have := hcond _ rfl; simpa [Rows.uptoSmall] using this) hL hS

end Cb
end Go.Proofs.YtmfejegpnfbajaaGreatDoor
