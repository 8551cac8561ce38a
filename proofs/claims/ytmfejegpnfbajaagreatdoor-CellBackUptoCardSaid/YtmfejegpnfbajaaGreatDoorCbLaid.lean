/-
  What the row's list of package variables gives the walks.
-/
import Derived.Test.YtmfejegpnfbajaaGreatDoorCards
import Derived.Test.YtmfejegpnfbajaaGreatDoorTie
import Derived.Test.YtmfejegpnfbajaaGreatDoorCbBack
import Derived.ProofKit
import Derived.OpenShut
import Derived.LaidSub
import Derived.MakeChecks
import Derived.Shelf.Vars
import Derived.Deep.DeepHandedRow
import Derived.Deep.DeepWitnessRowRef
namespace Go.Proofs.YtmfejegpnfbajaaGreatDoor
namespace Cb
open Go.ChangeShapes Go.WideShapes Go.RowKit

def names4 : List String := ["internal/strconv.uint64pow10", "strconv.ErrRange", "strconv.ErrSyntax", "weir/span.units"]

theorem list4 : (Rows.cellBackUptoRow.laid.filter fun x => names4.contains x.1) = [("internal/strconv.uint64pow10", Rows.laid_internal_strconv_uint64pow10), ("strconv.ErrRange", Rows.laid_strconv_ErrRange), ("strconv.ErrSyntax", Rows.laid_strconv_ErrSyntax), ("weir/span.units", Rows.laid_weir_span_units)] := by kernel_rfl

theorem gUnits : Tryz.prog.globalNamed "weir/span.units" = some 5 := by kernel_rfl
theorem gRange : Tryz.prog.globalNamed "strconv.ErrRange" = some 3 := by kernel_rfl
theorem gSyntax : Tryz.prog.globalNamed "strconv.ErrSyntax" = some 2 := by kernel_rfl
theorem tPow : (Tryz.prog.globals[4]?).map (·.type) = some 239 := by kernel_rfl
theorem tUnits : (Tryz.prog.globals[5]?).map (·.type) = some 265 := by kernel_rfl
theorem tRange : (Tryz.prog.globals[3]?).map (·.type) = some 29 := by kernel_rfl
theorem tSyntax : (Tryz.prog.globals[2]?).map (·.type) = some 29 := by kernel_rfl
theorem cells264 : Tryz.prog.cellsOf 264 = 2 := by kernel_rfl
theorem cells9 : Tryz.prog.cellsOf 9 = 1 := by kernel_rfl
theorem cells2 : Tryz.prog.cellsOf 2 = 1 := by kernel_rfl
theorem cells151 : Tryz.prog.cellsOf 151 = 1 := by kernel_rfl
theorem cells239 : Tryz.prog.cellsOf 239 = 20 := by kernel_rfl

theorem two_of {α : Type} {l : List α} (h : l.length = 2) : ∃ a b, l = [a, b] := by
  match l, h with
  | [a, b], _ => exact ⟨a, b, rfl⟩

section
variable {H : Type} {enc : TypeId × Value → H} {W : World} {base : Nat} {sp : Nat → Bool} {held : Bool}

theorem unit_cells {m : Nat} {cs : List Value} {nm : List UInt8} {n : Int} {p : List MemPlace} (h : DataW.trod enc Tryz.prog W base sp held m 264 cs = some (.agg [.lit (.string nm), .lit (.int .i64 n)], p)) : cs = [.string ⟨nm.toArray⟩, .int .i64 n] := by
  obtain ⟨y0, y1, k, hx, hl, h0, h1⟩ := trod_struct2 Tryz.underlying264 h
  rw [cells264] at hl
  obtain ⟨a, b, rfl⟩ := two_of hl
  simp only [cells9, cells2] at h0 h1
  obtain ⟨s, e0, f0, _⟩ := DataW.trod_string Tryz.underlying9 h0
  obtain ⟨z, e1, f1, _⟩ := DataW.trod_int Tryz.underlying2 h1
  simp at e0 e1
  subst e0; subst e1; subst f0; subst f1
  simp at hx
  obtain ⟨⟨rfl, rfl⟩, _⟩ := hx
  simp
end

theorem two_at {cs : List Value} {i : Nat} {a b : Value} (h : (cs.drop (i * 2)).take 2 = [a, b]) : cs[2 * i]? = some a ∧ cs[2 * i + 1]? = some b := by
  have h0 : ((cs.drop (i * 2)).take 2)[0]? = some a := by rw [h]; rfl
  have h1 : ((cs.drop (i * 2)).take 2)[1]? = some b := by rw [h]; rfl
  rw [List.getElem?_take, if_pos (by omega), List.getElem?_drop] at h0 h1
  exact ⟨by rw [show 2 * i = i * 2 + 0 from by omega]; exact h0, by rw [show 2 * i + 1 = i * 2 + 1 from by omega]; exact h1⟩

theorem units_of {W : World} (h : laidMet Tryz.prog [("weir/span.units", Rows.laid_weir_span_units)] W) : ∀ (j : Nat) (v : Value), Sx.unitsL[j]? = some v → W.cell? ⟨5, j, none⟩ = some v := by
  obtain ⟨ps, ⟨g, t, cs, fuel, p, q, hg, ht, hv, hd, _, _⟩, _⟩ := h
  obtain rfl := Option.some.inj (gUnits.symm.trans hg)
  obtain rfl := Option.some.inj (tUnits.symm.trans ht)
  obtain ⟨xs, m, _, ex, _, hl, hel⟩ := DataW.trod_array Tryz.underlying265 hd
  have e1 : xs.map (·.1) = [.agg [.lit (.string [119]), .lit (.int .i64 604800000000000)], .agg [.lit (.string [100]), .lit (.int .i64 86400000000000)], .agg [.lit (.string [104]), .lit (.int .i64 3600000000000)], .agg [.lit (.string [109]), .lit (.int .i64 60000000000)], .agg [.lit (.string [115]), .lit (.int .i64 1000000000)], .agg [.lit (.string [109, 115]), .lit (.int .i64 1000000)], .agg [.lit (.string [117, 115]), .lit (.int .i64 1000)], .agg [.lit (.string [110, 115]), .lit (.int .i64 1)]] := (DataW.agg.inj (Prod.mk.inj ex).1).symm
  have key : ∀ (i : Nat) (nm : List UInt8) (n : Int), i < 8 → (xs.map (·.1))[i]? = some (.agg [.lit (.string nm), .lit (.int .i64 n)]) → cs.toList[2 * i]? = some (.string ⟨nm.toArray⟩) ∧ cs.toList[2 * i + 1]? = some (.int .i64 n) := by
    intro i nm n hi hx
    rw [List.getElem?_map] at hx
    obtain ⟨y, hy, hy1⟩ := Option.map_eq_some_iff.1 hx
    have h2 := hel i hi
    rw [hy, cells264] at h2
    obtain ⟨y1, y2⟩ := y
    simp only at hy1
    subst hy1
    exact two_at (unit_cells h2)
  have cell : ∀ (j : Nat), W.cell? ⟨5, j, none⟩ = cs.toList[j]? := fun j => by rw [World.var?_cell hg hv j, Array.getElem?_toList]
  have k0 := key 0 _ _ (by omega) (by rw [e1]; rfl)
  have k1 := key 1 _ _ (by omega) (by rw [e1]; rfl)
  have k2 := key 2 _ _ (by omega) (by rw [e1]; rfl)
  have k3 := key 3 _ _ (by omega) (by rw [e1]; rfl)
  have k4 := key 4 _ _ (by omega) (by rw [e1]; rfl)
  have k5 := key 5 _ _ (by omega) (by rw [e1]; rfl)
  have k6 := key 6 _ _ (by omega) (by rw [e1]; rfl)
  have k7 := key 7 _ _ (by omega) (by rw [e1]; rfl)
  intro j v hj
  rw [cell j]
  match j, hj with
  | 0, hj => exact k0.1.trans hj
  | 1, hj => exact k0.2.trans hj
  | 2, hj => exact k1.1.trans hj
  | 3, hj => exact k1.2.trans hj
  | 4, hj => exact k2.1.trans hj
  | 5, hj => exact k2.2.trans hj
  | 6, hj => exact k3.1.trans hj
  | 7, hj => exact k3.2.trans hj
  | 8, hj => exact k4.1.trans hj
  | 9, hj => exact k4.2.trans hj
  | 10, hj => exact k5.1.trans hj
  | 11, hj => exact k5.2.trans hj
  | 12, hj => exact k6.1.trans hj
  | 13, hj => exact k6.2.trans hj
  | 14, hj => exact k7.1.trans hj
  | 15, hj => exact k7.2.trans hj
  | k + 16, hj => simp [Sx.unitsL] at hj

theorem err_of {W : World} {name : String} {g : Nat} {d : DataW Unit} (hgn : Tryz.prog.globalNamed name = some g) (ht : (Tryz.prog.globals[g]?).map (·.type) = some 29) {tn : String} (h : laidMet Tryz.prog [(name, .iface tn d)] W) :
    ∃ ev, W.cell? ⟨g, 0, none⟩ = some ev ∧ (ev = .nilIface ∨ ∃ te pe, ev = .iface te pe) := by
  obtain ⟨ps, ⟨g', t, cs, fuel, p, q, hg, ht', hv, hd, _, _⟩, _⟩ := h
  obtain rfl := Option.some.inj (hgn.symm.trans hg)
  obtain rfl := Option.some.inj (ht.symm.trans ht')
  obtain ⟨f', u, v, hcs, _, _⟩ := iface_of_trod Tryz.underlying29 hd
  refine ⟨.iface u v, ?_, .inr ⟨u, v, rfl⟩⟩
  rw [World.var?_cell hg hv 0, ← Array.getElem?_toList, hcs]
  rfl

theorem one_laid {W : World} {l : List (String × DataW Unit)} (h : laidMetH Tryz.prog l W) (name : String) (d : DataW Unit) (he : (l.filter fun x => x.1 == name) = [(name, d)]) (hn : d.handleName?.isNone = true) : laidMet Tryz.prog [(name, d)] W := by
  have h1 := laidMetH.filter (fun x => x.1 == name) h
  rw [he, MakeChecks.laidMetH_plain _ _ _ (by simpa using hn)] at h1
  exact h1

theorem pow_same : ((Lib.pow10Tab.map fun z => Value.int .u64 z) : List Value) = Sx.powL := by kernel_rfl

theorem env_of {W : World} (h : laidMetH Tryz.prog Rows.cellBackUptoRow.laid W) (hS : W.ShapedOpen Tryz.prog) : Env W ∧ Sx.Laid W := by
  have hp := one_laid h "internal/strconv.uint64pow10" Rows.laid_internal_strconv_uint64pow10 (by kernel_rfl) (by rfl)
  have hr := one_laid h "strconv.ErrRange" Rows.laid_strconv_ErrRange (by kernel_rfl) (by rfl)
  have hs := one_laid h "strconv.ErrSyntax" Rows.laid_strconv_ErrSyntax (by kernel_rfl) (by rfl)
  have hu := one_laid h "weir/span.units" Rows.laid_weir_span_units (by kernel_rfl) (by rfl)
  have htab : Lib.TabIs Tryz.prog W "internal/strconv.uint64pow10" .u64 Lib.pow10Tab := Lib.tabIs_of_head (rest := []) gPow tPow Tryz.underlying239 Tryz.underlying151 cells151 cells239 hp
  obtain ⟨m, hm⟩ := cell_of_shapedOpen_int (g := 1) (zero := #[.int .i64 0]) (t := 3) hS (of_decide_eq_true (by kernel_rfl)) (by kernel_rfl) rfl (by kernel_rfl) (by kernel_rfl) Tryz.underlying3
  have hlo : 12 ≤ W.heap.size := by
    obtain ⟨o, o0, h1, _⟩ := hS.2 12 (of_decide_eq_true (by kernel_rfl)) (of_decide_eq_true (by kernel_rfl))
    have := (Array.getElem?_eq_some_iff.1 h1).1
    omega
  refine ⟨⟨hlo, htab, ⟨m, hm⟩, err_of gSyntax tSyntax hs, err_of gRange tRange hr⟩, hlo, ?_, units_of hu⟩
  intro j v hj
  rw [World.var?_cell gPow htab j, ← hj, ← pow_same]
  simp

end Cb
end Go.Proofs.YtmfejegpnfbajaaGreatDoor
