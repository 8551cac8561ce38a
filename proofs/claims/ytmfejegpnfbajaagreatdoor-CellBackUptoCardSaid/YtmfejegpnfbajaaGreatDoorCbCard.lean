/-
  The law: cell.Name and cell.Parse undo each other: the row where what it reads is of bulk at most 1048576, and its card.
-/
import Derived.Test.YtmfejegpnfbajaaGreatDoorCbLaid
import Derived.LaidHandle
import Derived.Lay
import Derived.Carry
import Derived.SliceStrings
import Derived.Lib.SmallJoins
import Derived.ChangeMaps5
import Derived.SevenTiedAt
import Derived.Stop.Joined
namespace Go.Proofs.YtmfejegpnfbajaaGreatDoor
namespace Cb
open Go.ChangeShapes Go.WideShapes Go.ChangeAt Go.RowKit

theorem own : ownKnob Tryz.prog.godebug = none := by kernel_rfl
theorem laidOut : laidOutB Tryz.prog = true := by kernel_rfl

theorem esc_le (l : List UInt8) : (esc l).length ≤ 2 * l.length := by
  induction l with
  | nil => simp [esc]
  | cons c l ih => simp only [esc]; split <;> simp <;> omega

theorem tail_bulk {H : Type} (ss : List ByteArray) : (tail (lists ss)).length ≤ 2 * Rows.uptoBulkAll (Go.ChangeShapes.strs ss : List (DataW H)) := by
  induction ss with
  | nil => simp [lists, tail]
  | cons s ss ih =>
    have h := esc_le s.data.toList
    simp only [lists, Go.ChangeShapes.strs, List.map_cons, tail, List.length_cons, List.length_append, Rows.uptoBulkAll, Rows.uptoBulk] at ih ⊢
    omega

set_option maxHeartbeats 1000000 in
set_option maxRecDepth 100000 in
theorem contract (H : Type) (enc : TypeId × Value → H) (W : World) (base : Nat) (args : Array Value) (ds gs : List (DataW H)) (before : List MemPlace)
    (hval : ∀ (j : Nat) t v, Tryz.f4.params[j]? = some t → args[j]? = some v → Value.okWide Tryz.prog W .any base t v)
    (hW : DataW.Whole enc Tryz.prog Tryz.f4.params.toList Rows.cellBackSpec.vars false W args.toList ds gs before) (hbulk : Rows.uptoBulkAll (ds ++ gs) ≤ 1048576)
    (hL : laidMetH Tryz.prog Rows.cellBackUptoRow.laid W) (hS : W.ShapedOpen Tryz.prog) :
    Calls Tryz.prog 4 args W fun e W' => ∃ v, e = .returned v ∧ Rows.cellBackSpec.post enc Tryz.prog Tryz.f4 false true false false W args v W' := by
  have hW' := hW
  obtain ⟨p, q, hA0, hV, rfl, hfz, hnd⟩ := hW
  have hA : DataW.TrodAll enc Tryz.prog W 0 (fun _ => true) true Tryz.f4.params.toList args.toList ds p := hA0
  rw [Tryz.params4] at hA hval
  obtain ⟨v0, v1, d0, d1, p0, p1, rfl, rfl, rfl, h0, h1⟩ := trodAll_two hA
  obtain ⟨rfl, rfl⟩ := trodVars_none hV
  have h0k := h0
  obtain ⟨s, rfl, rfl, rfl, hsz⟩ := Go.ChangeMaps.open_string Tryz.underlying9 (hval 1 9 v1 rfl rfl) h1
  have hlt : ∀ x ∈ p0, x.block < W.heap.size := fun x hx => hW'.lt x (by simp [hx])
  obtain ⟨E, L⟩ := env_of hL hS
  have fin : ∀ W', Below W.heap.size W W' → ∃ v, Ending.returned (.bool true) = .returned v ∧ Rows.cellBackSpec.post enc Tryz.prog Tryz.f4 false true false false W #[v0, .string s] v W' := fun W' hb =>
    ⟨_, rfl, _, _, _, [], _, [], hW', trodAll_mk1 (shut_bool Tryz.underlying4 _), trodAll_mk2 (Below.trod laidOut (by kernel_rfl) (of_decide_eq_true (by kernel_rfl)) h0k hb hlt) (Go.ChangeMaps.shut_string Tryz.underlying9 hsz), rfl, hb.frame _, fun h => by cases h⟩
  obtain ⟨c0, c1, y0, y1, n, rfl, rfl, rfl, g0, g1⟩ := Go.Joins.open_agg2 Tryz.underlying27 (by kernel_rfl) (by kernel_rfl) (hval 0 27 v0 rfl rfl) h0
  obtain ⟨z, e0, rfl, wz⟩ := DataW.trod_int Tryz.underlying2 g0
  simp only [List.cons.injEq, and_true] at e0
  subst e0
  have hz : -9223372036854775808 ≤ z ∧ z ≤ 9223372036854775807 := by simpa [Lit.wf, IntKind.min, IntKind.max, IntKind.signed, IntKind.bits] using wz
  rcases open_strings Tryz.underlying22 Tryz.underlying9 cells9 g1 with ⟨hcs, hx⟩ | ⟨a, len, cap, ss, hcs, _, hl, hm, hz2, hx, hcell, _⟩
  · simp only [List.cons.injEq, and_true] at hcs
    subst hcs; subst hx
    simp [Rows.uptoBulkAll, Rows.uptoBulk] at hbulk
    refine (back_any z hz.1 hz.2 none 0 [] s W E L (fun hp => absurd hp (by simp)) (by simp [lists, tail]) (by omega)).mono ?_
    rintro e W' ⟨rfl, hb⟩
    exact fin W' hb
  · simp only [List.cons.injEq, and_true] at hcs
    subst hcs; subst hx
    simp only [if_true] at hz2
    have htb := tail_bulk (H := H) (ss.take len)
    have hlen : (ss.take len).length = len := by simp; omega
    simp [Rows.uptoBulkAll, Rows.uptoBulk] at hbulk
    have hg : Strs W (some a) (ss.take len) := fun _ => ⟨a, rfl, fun j hj => by
      have hj2 : j < ss.length := by rw [hlen] at hj; omega
      rw [hcell j hj2]
      simp [List.getD, List.getElem?_eq_getElem hj2]⟩
    have hc := back_any z hz.1 hz.2 (some a) cap (ss.take len) s W E L hg (by omega) (by omega)
    rw [hlen] at hc
    refine hc.mono ?_
    rintro e W' ⟨rfl, hb⟩
    exact fin W' hb

end Cb
end Go.Proofs.YtmfejegpnfbajaaGreatDoor
