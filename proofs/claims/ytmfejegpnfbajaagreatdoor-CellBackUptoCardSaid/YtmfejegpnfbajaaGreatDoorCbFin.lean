/-
  For every cell c and every text s, weirlaw23.CellBack(c, s) returns true and its arguments read afterwards as they did before: cell.Parse undoes cell.Name, and what cell.Parse takes cell.Name spells back.
  Conditions: the arguments hold together at most 1048576 values and letters ('uptoBulk'); the package variables that the row lists hold what the program's text lays, to which the card ties them; of internal/bytealg.MaxLen it speaks for every value.
  The walk of live() (a whole query, answered) is done by the evaluator of the texts Sx.., which is proved right there for every program.
-/
import Derived.Test.YtmfejegpnfbajaaGreatDoorCbLift
import Derived.Test.YtmfejegpnfbajaaGreatDoorCbFacts
namespace Go.Proofs.YtmfejegpnfbajaaGreatDoor
namespace Cb
open Go.ChangeShapes Go.WideShapes Go.ChangeAt Go.RowKit

theorem saidUpto : Rows.CellBackUptoSaid :=
  OpenClaim.holds_of_cond 4 Tryz.f4 rfl rfl rfl rfl rfl rfl rfl ⟨rfl, rfl, rfl, rfl, rfl⟩ rfl rfl rfl rfl rfl named4 Tryz.func4 facts
    (of_decide_eq_true (by kernel_rfl)) (by unfold Func.isWrapper; first | (rw [if_pos (by decide +kernel)]; kernel_rfl) | (rw [if_neg (by decide +kernel)]; exact ⟨rfl, rfl⟩))
    (fun os started H enc _ F => by rw [OpenClaim.pre_eq_preRow]; exact liftedUpto os started H enc F)

theorem plain (f : FuncId) (fn : Func) (hf : Tryz.pinned.checked.prog.funcNamed "weir/weirlaw23.CellBack" = some f) (hfn : Tryz.pinned.checked.prog.funcs[f]? = some fn) :
    true = Tryz.pinned.checked.prog.looks [] ∧ ∀ (j : Nat) t, fn.params[j]? = some t → Tryz.pinned.checked.prog.wantsStandIn t = false := by
  obtain rfl : f = 4 := Option.some.inj ((show Tryz.prog.funcNamed "weir/weirlaw23.CellBack" = some 4 by kernel_rfl).symm.trans hf) |>.symm
  obtain rfl : fn = Tryz.f4 := (Option.some.inj (Tryz.func4.symm.trans hfn)).symm
  refine ⟨by kernel_rfl, fun j t ht => ?_⟩
  rw [Tryz.params4] at ht
  have hm : t ∈ [27, 9] := by simpa using Array.mem_of_getElem? ht
  have hall : ([27, 9].all fun u => !Tryz.prog.wantsStandIn u) = true := by kernel_rfl
  exact (show Tryz.prog.wantsStandIn t = false by simpa using List.all_eq_true.1 hall t hm)

/-- The card. -/
theorem cardUpto : Rows.CellBackUptoCardSaid :=
  Claim7.holds_tied_plain_at .later [] _ _ _ _ saidUpto (fun _ h => by cases h) (by kernel_rfl) (fun _ h => by cases h) cellBackUpto_row_tie rfl ⟨rfl, rfl⟩ (by kernel_rfl) rfl plain (by kernel_rfl)
end Cb
end Go.Proofs.YtmfejegpnfbajaaGreatDoor
