/-
  The evaluator's answer at live(), by the kernel.
-/
import Derived.Test.YtmfejegpnfbajaaGreatDoorSxEv
import Derived.Test.YtmfejegpnfbajaaGreatDoorProg
import Derived.KernelRfl
namespace Go.Proofs.YtmfejegpnfbajaaGreatDoor
namespace Sx

/-- The program, its package variables alone told as blocks that are read only; math/bits.Add64 by its rule. -/
noncomputable def ctx : Ctx where
  P := Tryz.prog
  F := fun f => Tryz.prog.funcs[f]?
  ro := 12
  globs := 12
  K := fun _ => none
  E := fun f => if f = 234 then some add64 else none

def unitsL : List Value := [.string ⟨#[119]⟩, .int .i64 604800000000000, .string ⟨#[100]⟩, .int .i64 86400000000000, .string ⟨#[104]⟩, .int .i64 3600000000000, .string ⟨#[109]⟩, .int .i64 60000000000, .string ⟨#[115]⟩, .int .i64 1000000000, .string ⟨#[109,115]⟩, .int .i64 1000000, .string ⟨#[117,115]⟩, .int .i64 1000, .string ⟨#[110,115]⟩, .int .i64 1]
def powL : List Value := (List.range 20).map fun i => .int .u64 (10 ^ i)

/-- The package variables: the powers of ten, the units. -/
def h0 : List Blk := [.dead, .dead, .dead, .dead, .tab powL, .tab unitsL, .dead, .dead, .dead, .dead, .dead, .dead]

def isTrue : Option (Value × List Blk) → Bool
  | some (.bool true, _) => true
  | _ => false

theorem isTrue_some {o : Option (Value × List Blk)} (h : isTrue o = true) : ∃ h', o = some (.bool true, h') := by
  match o, h with
  | some (.bool true, h'), _ => exact ⟨h', rfl⟩

set_option maxRecDepth 1000000 in
theorem live_told : isTrue (callA ctx 100000 60 9 [] h0) = true := by kernel_rfl

end Sx
end Go.Proofs.YtmfejegpnfbajaaGreatDoor
