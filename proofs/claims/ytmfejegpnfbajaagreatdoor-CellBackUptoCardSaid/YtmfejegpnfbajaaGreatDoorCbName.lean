/-
  The walks of cell.Name: what the call does, said of numbers and bytes; what it wants of the package-level variables.
-/
import Derived.Test.YtmfejegpnfbajaaGreatDoorCbKey
import Derived.WalkSmall
import Derived.Lib.AppendIntMem
import Derived.Lib.LaidTab
namespace Go.Proofs.YtmfejegpnfbajaaGreatDoor
namespace Cb
open Go.RowKit

theorem gPow : Tryz.prog.globalNamed "internal/strconv.uint64pow10" = some 4 := by kernel_rfl

/-- What is wanted of the package-level variables. -/
structure Env (w : World) : Prop where
  lo : 12 ≤ w.heap.size
  tab : Lib.TabIs Tryz.prog w "internal/strconv.uint64pow10" .u64 Lib.pow10Tab
  most : ∃ m, w.cell? ⟨1, 0, none⟩ = some (.int .i64 m)
  syn : ∃ ev, w.cell? ⟨2, 0, none⟩ = some ev ∧ (ev = .nilIface ∨ ∃ te pe, ev = .iface te pe)
  rng : ∃ ev, w.cell? ⟨3, 0, none⟩ = some ev ∧ (ev = .nilIface ∨ ∃ te pe, ev = .iface te pe)

theorem cell_keep {B : Nat} {w w' : World} (hb : Below B w w') {g o : Nat} (hg : g < B) {v : Value} (h : w.cell? ⟨g, o, none⟩ = some v) : w'.cell? ⟨g, o, none⟩ = some v :=
  (hb.cell (p := ⟨g, o, none⟩) hg).trans h

theorem Env.below {w w' : World} (h : Env w) {B : Nat} (hB : 12 ≤ B) (hb : Below B w w') : Env w' where
  lo := Nat.le_trans h.lo hb.size
  tab := var?_below hb gPow (by omega) h.tab
  most := by obtain ⟨m, hm⟩ := h.most; exact ⟨m, cell_keep hb (by omega) hm⟩
  syn := by obtain ⟨m, hm, hv⟩ := h.syn; exact ⟨m, cell_keep hb (by omega) hm, hv⟩
  rng := by obtain ⟨m, hm, hv⟩ := h.rng; exact ⟨m, cell_keep hb (by omega) hm, hv⟩

theorem below_drew_ (w : World) (n : Nat) : Below w.heap.size w (w.drewN n) := Go.below_drewN (Below.refl _ w) n

theorem new_cell (w : World) (cs : Array Value) (t : TypeId) (i : Nat) : (w.alloc (.cells cs t)).cell? ⟨w.heap.size, i, none⟩ = cs[i]? :=
  cell_of_row _ _ i cs t (0, 0) (heap_alloc_new w _)

/-- A slice of strings that is read. -/
def Strs (w : World) (A : Option Addr) (gs : List ByteArray) : Prop :=
  0 < gs.length → ∃ ad, A = some ad ∧ ∀ j, (h : j < gs.length) → w.cell? (ad.add j) = some (.string gs[j])

theorem Strs.below {w w' : World} {A : Option Addr} {gs : List ByteArray} (h : Strs w A gs) {B : Nat} (hb : Below B w w') (hB : w.heap.size ≤ B) : Strs w' A gs := fun hp => by
  obtain ⟨ad, rfl, hc⟩ := h hp
  exact ⟨ad, rfl, fun j hj => (hb.cell (Nat.lt_of_lt_of_le (World.block_lt_of_cell? w _ (hc j hj)) hB)).trans (hc j hj)⟩

def lists (gs : List ByteArray) : List (List UInt8) := gs.map fun g => g.data.toList

theorem formatInt_any (n : Int) (h0 : -9223372036854775808 ≤ n) (h1 : n ≤ 9223372036854775807) (w : World) (E : Env w) :
    Calls Tryz.prog 30 #[.int .i64 n, .int .i64 10] w fun e w' => e = .returned (.string ⟨(Lib.itoa n).toArray⟩) ∧ Below w.heap.size w w' := by
  refine (Tryz.strconv_FormatInt_10 n h0 h1 w E.tab).mono ?_
  rintro e w' ⟨rfl, k, os, rfl⟩
  exact ⟨rfl, Lib.below_grow _ w (Nat.le_refl _) k os⟩

theorem tail_take (gs : List ByteArray) (k : Nat) (h : k < gs.length) : tail (lists (gs.take (k + 1))) = tail (lists (gs.take k)) ++ 44 :: esc gs[k].data.toList := by
  rw [List.take_succ_eq_append_getElem h]
  unfold lists
  rw [List.map_append]
  exact tail_snoc _ _

theorem tail_le (l : List (List UInt8)) (g : List UInt8) (h : g ∈ l) : g.length ≤ (tail l).length := by
  induction l with
  | nil => cases h
  | cons x l ih =>
    have hx : x.length ≤ (esc x).length := by
      clear ih h
      induction x with
      | nil => simp
      | cons c x ih => simp only [esc]; split <;> simp <;> omega
    simp only [tail, List.length_cons, List.length_append]
    rcases List.mem_cons.1 h with rfl | h
    · omega
    · have := ih h; omega

theorem tail_take_le (l : List (List UInt8)) (k : Nat) : (tail (l.take k)).length ≤ (tail l).length := by
  induction l generalizing k with
  | nil => simp [tail]
  | cons x l ih =>
    cases k with
    | zero => simp [tail]
    | succ k =>
      have := ih k
      simp only [List.take_succ_cons, tail, List.length_cons, List.length_append]; omega

theorem str_cat (a b : List UInt8) : (⟨a.toArray⟩ : ByteArray) ++ (⟨b.toArray⟩ : ByteArray) = ⟨(a ++ b).toArray⟩ := by
  apply ByteArray.ext
  simp [ByteArray.data_append]

set_option maxHeartbeats 1000000 in
set_option maxRecDepth 100000 in
/-- cell.Name. -/
theorem name_any (n : Int) (h0 : -9223372036854775808 ≤ n) (h1 : n ≤ 9223372036854775807) (A : Option Addr) (c : Nat) (gs : List ByteArray) (w : World) (E : Env w) (hg : Strs w A gs) (hsz : (tail (lists gs)).length ≤ 8388608) (hlen : gs.length ≤ 8388608) :
    Calls Tryz.prog 12 #[.agg #[.int .i64 n, .slice A gs.length c]] w fun e w' => e = .returned (.string ⟨(name n (lists gs)).toArray⟩) ∧ Below w.heap.size w w' := by
  have hi := Lib.itoa_length_le n h0 h1
  go_enter Tryz.func12, Tryz.ntmps12
  go_wp2_with (go_at_call 30; refine (formatInt_any n h0 h1 _ (E.below E.lo ((Below.refl _ w).alloc (Nat.le_refl _) _))).mono ?_)
  rintro e w1 ⟨rfl, hb1⟩
  have hb01 : Below w.heap.size w w1 := ((Below.refl _ w).alloc (Nat.le_refl _) _).trans (hb1.mono (by simp))
  have hc1 : w1.cell? ⟨w.heap.size, 1, none⟩ = some (.slice A gs.length c) :=
    (hb1.cell (p := ⟨w.heap.size, 1, none⟩) (by simp)).trans (new_cell w _ _ 1)
  have hg1 := hg.below hb01 (Nat.le_refl _)
  have E1 := E.below E.lo hb01
  clear E hg
  go_wp2
  go_loopw [12, 5, 3] (fun i _ s wr => ∃ k : Nat, k ≤ gs.length ∧ i = .int .i64 k ∧ s = .string ⟨(Lib.itoa n ++ tail (lists (gs.take k))).toArray⟩ ∧ Below w1.heap.size w1 wr) (fun i _ _ _ => gs.length - (intOf i).toNat)
  case atStart => exact ⟨0, Nat.zero_le _, rfl, by simp [lists, tail], Below.refl _ _⟩
  case round =>
    obtain ⟨k, hk, rfl, rfl, hbr⟩ := hrel
    have Er := E1.below E1.lo hbr
    have hgr := hg1.below hbr (Nat.le_refl _)
    have htl : (tail (lists (gs.take k))).length ≤ 8388608 := by
      have := tail_take_le (lists gs) k
      rw [show (lists gs).take k = lists (gs.take k) from by simp [lists]] at this
      omega
    by_cases hlt : k < gs.length
    · obtain ⟨ad, rfl, hc⟩ := hgr (by omega)
      have hcell := hc k hlt
      have HT := Lib.hid (tail_take gs k hlt)
      have hgk : gs[k].size ≤ 8388608 := by
        have := tail_le (lists gs) gs[k].data.toList (List.mem_map.2 ⟨gs[k], List.getElem_mem hlt, rfl⟩)
        have h2 : gs[k].data.toList.length = gs[k].size := by simp
        omega
      have hel : (esc gs[k].data.toList).length ≤ 16777216 := by
        have := esc_length gs[k].data.toList
        have h2 : gs[k].data.toList.length = gs[k].size := by simp
        omega
      go_wp2_with (go_at_call 31; refine (escape_any _ _ (by omega)).mono ?_)
      rintro e w2 ⟨rfl, hb2⟩
      go_wp2
      go_roundw
      case rel =>
        refine ⟨k + 1, by omega, by go_num, ?_, hbr.trans (hb2.mono hbr.size)⟩
        rw [HT.out]
        rw [show (⟨#[44]⟩ : ByteArray) = ⟨([44] : List UInt8).toArray⟩ from rfl, str_cat, str_cat]
        simp only [List.append_assoc, List.cons_append, List.nil_append]
      case measure => simp [intOf]; omega
    · obtain rfl : k = gs.length := by omega
      go_wp2
      go_ret
      refine ⟨?_, hb01.trans (hbr.mono hb01.size)⟩
      rw [List.take_of_length_le (Nat.le_refl _)]; rfl

end Cb
end Go.Proofs.YtmfejegpnfbajaaGreatDoor
