/-
  The walks of key.special and key.Escape: what the calls do, said of bytes.
-/
import Derived.Test.YtmfejegpnfbajaaGreatDoorChecked
import Derived.Test.YtmfejegpnfbajaaGreatDoorShelf
import Derived.Test.YtmfejegpnfbajaaGreatDoorCbPlain
import Derived.Test.YtmfejegpnfbajaaGreatDoorCbBuilder
import Derived.WalkKit
import Derived.WalkSpells
import Derived.WalkLawsBesides
import Derived.BigCall
namespace Go.Proofs.YtmfejegpnfbajaaGreatDoor
namespace Cb
open Go.RowKit

theorem spec_int (c : UInt8) : spec c = (((c.toNat : Int) == 44) || ((c.toNat : Int) == 32) || ((c.toNat : Int) == 61) || ((c.toNat : Int) == 92)) := by
  have h : ∀ k : UInt8, (c == k) = ((c.toNat : Int) == (k.toNat : Int)) := fun k => by
    rw [Bool.eq_iff_iff]; simp only [beq_iff_eq]
    constructor
    · rintro rfl; rfl
    · intro e; exact UInt8.toNat_inj.1 (by omega)
  unfold spec
  rw [h 44, h 32, h 61, h 92]; rfl

set_option maxHeartbeats 400000 in
theorem special_any (c : UInt8) (w : World) :
    Calls Tryz.prog 45 #[.int .u8 (c.toNat : Int)] w fun e w' => e = .returned (.bool (spec c)) ∧ w = w' := by
  rw [spec_int c]
  have hb := c.toNat_lt
  cases h1 : ((c.toNat : Int) == 44) <;> cases h2 : ((c.toNat : Int) == 32) <;> cases h3 : ((c.toNat : Int) == 61) <;> cases h4 : ((c.toNat : Int) == 92)
  all_goals
    go_enter Tryz.func45, Tryz.ntmps45
    go_wp2
    go_ret
    exact ⟨rfl, rfl⟩

theorem esc_take (l : List UInt8) (k : Nat) (h : k < l.length) : esc (l.take (k + 1)) = esc (l.take k) ++ (if spec l[k] then [92, l[k]] else [l[k]]) := by
  rw [List.take_succ_eq_append_getElem h, esc_append]
  rfl

set_option maxHeartbeats 1000000 in
/-- key.Escape. -/
theorem escape_any (s : ByteArray) (w : World) (hs : s.size ≤ 16777216) :
    Calls Tryz.prog 31 #[.string s] w fun e w' => e = .returned (.string ⟨(esc s.data.toList).toArray⟩) ∧ Below w.heap.size w w' := by
  go_enter Tryz.func31, Tryz.ntmps31
  go_wp2
  go_loopw [7, 4] (fun i _ wr => ∃ k : Nat, k ≤ s.size ∧ i = .int .i64 k ∧ Lib.IsBuilder 108 5 w.heap.size w.heap.size (Lib.byteCells (esc (s.data.toList.take k))) wr ∧ Below w.heap.size w wr) (fun i _ _ => s.size - (intOf i).toNat)
  case atStart => exact ⟨0, Nat.zero_le _, rfl, Lib.fresh_isBuilder _ _ w, (Below.refl _ w).alloc (Nat.le_refl _) _⟩
  case round =>
    obtain ⟨k, hk, rfl, hB, hbw⟩ := hrel
    have hsz := hbw.size
    have hl : (esc (s.data.toList.take k)).length ≤ 33554432 := by
      have := esc_length (s.data.toList.take k); have := List.length_take_le k s.data.toList; omega
    by_cases hlt : k < s.size
    · have HT := Lib.hid (esc_take s.data.toList k (by simpa using hlt))
      cases hs : spec s[k] with
      | true =>
        go_wp2_with (go_at_call 45; refine (special_any _ _).mono ?_; rintro e w1 ⟨rfl, rfl⟩)
        have hlt' : k < s.size := hlt
        go_wp2_with (go_at_call 47; refine (writeByte_any _ _ _ _ _ hB (by rw [Lib.byteCells_length]; omega) hsz).mono ?_)
        rintro e w1 ⟨rfl, hB1, hb1⟩
        go_wp2_with (go_at_call 47; refine (writeByte_any _ _ _ _ _ hB1 (by simp only [List.length_append, Lib.byteCells_length, List.length_singleton]; omega) (hbw.trans hb1).size).mono ?_)
        rintro e w2 ⟨rfl, hB2, hb2⟩
        go_wp2
        go_roundw
        case rel =>
          refine ⟨k + 1, by omega, by go_num, ?_, (hbw.trans hb1).trans hb2⟩
          rw [HT.out, if_pos (show spec s.data.toList[k] = true from hs), Lib.byteCells_append, show s.data.toList[k] = s[k] from rfl]
          simpa [Lib.byteCells] using hB2
        case measure => simp [intOf]; omega
      | false =>
        go_wp2_with (go_at_call 45; refine (special_any _ _).mono ?_; rintro e w1 ⟨rfl, rfl⟩)
        go_wp2_with (go_at_call 47; refine (writeByte_any _ _ _ _ _ hB (by rw [Lib.byteCells_length]; omega) hsz).mono ?_)
        rintro e w1 ⟨rfl, hB1, hb1⟩
        go_wp2
        go_roundw
        case rel =>
          refine ⟨k + 1, by omega, by go_num, ?_, hbw.trans hb1⟩
          rw [HT.out, if_neg (show ¬ spec s.data.toList[k] = true from by rw [show spec s.data.toList[k] = false from hs]; simp), Lib.byteCells_append, show s.data.toList[k] = s[k] from rfl]
          simpa [Lib.byteCells] using hB1
        case measure => simp [intOf]; omega
    · obtain rfl : k = s.size := by omega
      go_wp2_with (go_at_call 48; refine (Tryz.Builder_String_any _ _ _ _ hB hsz).mono ?_)
      rintro e w1 ⟨rfl, hb1⟩
      go_wp2
      go_ret
      rw [List.take_of_length_le (by simp)]
      exact ⟨rfl, hbw.trans hb1⟩

set_option maxHeartbeats 400000 in
theorem faultAt_any (pos : Int) (k : Int) (w : World) (hk : (k == 0) = false) :
    Calls Tryz.prog 46 #[.int .i64 pos, .int .i64 k] w fun e w' => e = .returned (.iface 89 (.agg #[.int .i64 pos, .iface 32 (.int .i64 k)])) ∧ w = w' := by
  go_enter Tryz.func46, Tryz.ntmps46
  go_wp2
  go_ret
  exact ⟨rfl, rfl⟩

set_option maxHeartbeats 400000 in
theorem faultNew_any (k : Int) (w : World) (hk : (k == 0) = false) :
    Calls Tryz.prog 15 #[.int .i64 k] w fun e w' => e = .returned (.iface 32 (.int .i64 k)) ∧ w = w' := by
  go_enter Tryz.func15, Tryz.ntmps15
  go_wp2
  go_ret
  exact ⟨rfl, rfl⟩

/-- How key.Unescape ends. -/
def UnescEnd (l : List UInt8) (e : Ending) : Prop :=
  (∃ p, unesc l = some p ∧ e = .returned (.tuple #[.string ⟨p.1.toArray⟩, .int .i64 (p.2 : Nat), .nilIface])) ∨
  (unesc l = none ∧ ∃ pos : Int, e = .returned (.tuple #[.string ⟨#[]⟩, .int .i64 0, .iface 89 (.agg #[.int .i64 pos, .iface 32 (.int .i64 53)])]))

theorem drop_cons (l : List UInt8) (k : Nat) (h : k < l.length) : l.drop k = l[k] :: l.drop (k + 1) := List.drop_eq_getElem_cons h

set_option maxHeartbeats 2000000 in
set_option maxRecDepth 100000 in
/-- key.Unescape. -/
theorem unescape_any (s : ByteArray) (w : World) (hs : s.size ≤ 16777216) :
    Calls Tryz.prog 23 #[.string s] w fun e w' => UnescEnd s.data.toList e ∧ Below w.heap.size w w' := by
  go_enter Tryz.func23, Tryz.ntmps23
  go_wp2
  go_loopw [6] (fun i wr => ∃ (k : Nat) (acc : List UInt8), k ≤ s.size ∧ i = .int .i64 k ∧ acc.length ≤ k ∧ Hid (unesc s.data.toList = (unesc (s.data.toList.drop k)).map fun p => (acc ++ p.1, k + p.2)) ∧ Lib.IsBuilder 108 5 w.heap.size w.heap.size (Lib.byteCells acc) wr ∧ Below w.heap.size w wr) (fun i _ => s.size - (intOf i).toNat)
  case atStart => exact ⟨0, [], Nat.zero_le _, rfl, Nat.le_refl _, by show unesc _ = _; simp, Lib.fresh_isBuilder _ _ w, (Below.refl _ w).alloc (Nat.le_refl _) _⟩
  case round =>
    obtain ⟨k, acc, hk, rfl, hacc, HU, hB, hbw⟩ := hrel
    have hsz := hbw.size
    by_cases hlt : k < s.size
    · have HD := Lib.hid (drop_cons s.data.toList k (by simpa using hlt))
      by_cases h92 : s[k] = 92
      · have hq : ((s[k].toNat : Int) == 92) = true := by rw [h92]; rfl
        have H92 := Lib.hid h92
        clear h92
        by_cases hend : k + 1 < s.size
        · have hq1 : ((k : Int) + 1 == (s.size : Int)) = false := by rw [beq_eq_false_iff_ne]; omega
          have HD1 := Lib.hid (drop_cons s.data.toList (k + 1) (by simpa using hend))
          have HE : Hid (unesc (s.data.toList.drop k) = if spec s[k + 1] then (unesc (s.data.toList.drop (k + 2))).map fun p => (s[k + 1] :: p.1, p.2 + 2) else none) := by
            show _ = _
            rw [HD.out, show s.data.toList[k] = s[k] from rfl, H92.out, HD1.out, unesc_pair]; rfl
          cases hs1 : spec s[k + 1] with
          | true =>
            rw [hs1] at HE
            go_wp2_with (go_at_call 45; refine (special_any _ _).mono ?_; rintro e w1 ⟨rfl, rfl⟩)
            go_wp2_with (go_at_call 47; refine (writeByte_any _ _ _ _ _ hB (by rw [Lib.byteCells_length]; omega) hsz).mono ?_)
            rintro e w1 ⟨rfl, hB1, hb1⟩
            go_wp2
            go_roundw
            case rel =>
              refine ⟨k + 2, acc ++ [s[k + 1]], by omega, by go_num, by simp; omega, ?_, ?_, hbw.trans hb1⟩
              · show _ = _
                rw [HU.out, HE.out]
                simp only [if_true, Option.map_map]
                congr 1
                funext p
                simp [Nat.add_assoc, Nat.add_comm 2]
              · rw [Lib.byteCells_append]; exact hB1
            case measure => simp [intOf]; omega
          | false =>
            rw [hs1] at HE
            go_wp2_with (first | (go_at_call 45; refine (special_any _ _).mono ?_; rintro e w1 ⟨rfl, rfl⟩) | (go_at_call 46; refine (faultAt_any _ _ _ rfl).mono ?_; rintro e w1 ⟨rfl, rfl⟩))
            go_ret3
            exact ⟨.inr ⟨by rw [HU.out, HE.out]; rfl, _, rfl⟩, hbw⟩
        · have hq1 : ((k : Int) + 1 == (s.size : Int)) = true := by rw [beq_iff_eq]; omega
          have HE : Hid (unesc (s.data.toList.drop k) = none) := by
            show _ = _
            rw [HD.out, show s.data.toList[k] = s[k] from rfl, H92.out, List.drop_of_length_le (by simp; omega)]; rfl
          go_wp2_with (go_at_call 46; refine (faultAt_any _ _ _ rfl).mono ?_; rintro e w1 ⟨rfl, rfl⟩)
          go_ret3
          exact ⟨.inr ⟨by rw [HU.out, HE.out]; rfl, _, rfl⟩, hbw⟩
      · have hq : ((s[k].toNat : Int) == 92) = false := by
          rw [beq_eq_false_iff_ne]; intro e; exact h92 (UInt8.toNat_inj.1 (show s[k].toNat = 92 by omega))
        have HE : Hid (unesc (s.data.toList.drop k) = if spec s[k] then some ([], 0) else (unesc (s.data.toList.drop (k + 1))).map fun p => (s[k] :: p.1, p.2 + 1)) := by
          show _ = _
          rw [HD.out, show s.data.toList[k] = s[k] from rfl, unesc_plain _ h92]
        clear h92
        cases hs1 : spec s[k] with
        | true =>
          rw [hs1] at HE
          go_wp2_with (first | (go_at_call 45; refine (special_any _ _).mono ?_; rintro e w1 ⟨rfl, rfl⟩) | (go_at_call 48; refine (Tryz.Builder_String_any _ _ _ _ hB hsz).mono ?_; rintro e w1 ⟨rfl, hb1⟩))
          go_ret3
          exact ⟨.inl ⟨(acc, k), by rw [HU.out, HE.out]; simp, rfl⟩, hbw.trans hb1⟩
        | false =>
          rw [hs1] at HE
          go_wp2_with (go_at_call 45; refine (special_any _ _).mono ?_; rintro e w1 ⟨rfl, rfl⟩)
          go_wp2_with (go_at_call 47; refine (writeByte_any _ _ _ _ _ hB (by rw [Lib.byteCells_length]; omega) hsz).mono ?_)
          rintro e w1 ⟨rfl, hB1, hb1⟩
          go_wp2
          go_roundw
          case rel =>
            refine ⟨k + 1, acc ++ [s[k]], by omega, by go_num, by simp; omega, ?_, ?_, hbw.trans hb1⟩
            · show _ = _
              rw [HU.out, HE.out]
              simp only [Bool.false_eq_true, if_false, Option.map_map]
              congr 1
              funext p
              simp [Nat.add_assoc, Nat.add_comm 1]
            · rw [Lib.byteCells_append]; exact hB1
          case measure => simp [intOf]; omega
    · obtain rfl : k = s.size := by omega
      go_wp2_with (go_at_call 48; refine (Tryz.Builder_String_any _ _ _ _ hB hsz).mono ?_; rintro e w1 ⟨rfl, hb1⟩)
      go_ret3
      exact ⟨.inl ⟨(acc, s.size), by rw [HU.out, List.drop_of_length_le (by simp)]; simp [unesc], rfl⟩, hbw.trans hb1⟩

end Cb
end Go.Proofs.YtmfejegpnfbajaaGreatDoor
