/-
  The walk of cell.Compare at two cells that say the same: 0.
-/
import Derived.Test.YtmfejegpnfbajaaGreatDoorCbParse
import Derived.Deep.RegionHeld3
namespace Go.Proofs.YtmfejegpnfbajaaGreatDoor
namespace Cb
open Go.RowKit

theorem new_cell2 (w : World) (o : Obj) (cs : Array Value) (t : TypeId) (i : Nat) : ((w.alloc o).alloc (.cells cs t)).cell? ⟨w.heap.size + 1, i, none⟩ = cs[i]? := by
  have h := new_cell (w.alloc o) cs t i
  rwa [show (w.alloc o).heap.size = w.heap.size + 1 from by simp] at h

theorem less_self : ∀ l : List UInt8, Op.bytesLess l l = false := by
  intro l
  induction l with
  | nil => rfl
  | cons c l ih => simp [Op.bytesLess, ih]

set_option maxHeartbeats 400000 in
theorem cmpInt_same (n : Int) (w : World) :
    Calls Tryz.prog 34 #[.int .i64 n, .int .i64 n] w fun e w' => e = .returned (.int .i64 0) ∧ w = w' := by
  have h1 : (n != n) = false := by simp
  have h2 : decide (n < n) = false := by simp
  go_enter Tryz.func34, Tryz.ntmps34
  go_wp2
  go_ret
  exact ⟨rfl, rfl⟩

set_option maxHeartbeats 400000 in
theorem cmpStr_same (s : ByteArray) (w : World) :
    Calls Tryz.prog 65 #[.string s, .string s] w fun e w' => e = .returned (.int .i64 0) ∧ w = w' := by
  have h2 := less_self s.toList
  go_enter Tryz.func65, Tryz.ntmps65
  go_wp2
  go_ret
  exact ⟨rfl, rfl⟩

set_option maxHeartbeats 1000000 in
theorem slicesCompare_same (A A' : Option Addr) (c c' : Nat) (gs : List ByteArray) (w : World) (h : Strs w A gs) (h' : Strs w A' gs) (hl : gs.length ≤ 16777216) :
    Calls Tryz.prog 35 #[.slice A gs.length c, .slice A' gs.length c'] w fun e w' => e = .returned (.int .i64 0) ∧ w = w' := by
  go_enter Tryz.func35, Tryz.ntmps35
  go_wp2
  go_loop [11, 5, 6, 7, 8] (fun i _ _ _ _ => ∃ k : Nat, k ≤ gs.length ∧ i = .int .i64 k) (fun i _ _ _ _ => gs.length - (intOf i).toNat)
  case atStart => exact ⟨0, Nat.zero_le _, rfl⟩
  case round =>
    obtain ⟨k, hk, rfl⟩ := hrel
    by_cases hlt : k < gs.length
    · obtain ⟨ad, rfl, hc⟩ := h (by omega)
      obtain ⟨ad', rfl, hc'⟩ := h' (by omega)
      have c1 := hc k hlt
      have c2 := hc' k hlt
      clear hc hc'
      go_wp2_with (go_at_call 65; refine (cmpStr_same _ _).mono ?_; rintro e w1 ⟨rfl, rfl⟩)
      go_round
      case rel => exact ⟨k + 1, by omega, by go_num⟩
      case measure => simp [intOf]; omega
    · obtain rfl : k = gs.length := by omega
      go_wp2
      go_ret
      exact ⟨rfl, rfl⟩

set_option maxHeartbeats 1000000 in
theorem or_zero (b : Nat) (w : World) (c0 : w.cell? ⟨b, 0, none⟩ = some (.int .i64 0)) (c1 : w.cell? ⟨b, 1, none⟩ = some (.int .i64 0)) :
    Calls Tryz.prog 33 #[.slice (some ⟨b, 0, none⟩) 2 2] w fun e w' => e = .returned (.int .i64 0) ∧ w = w' := by
  go_enter Tryz.func33, Tryz.ntmps33
  go_wp2
  go_loop [8, 5] (fun i _ => ∃ k : Nat, k ≤ 2 ∧ i = .int .i64 k) (fun i _ => 2 - (intOf i).toNat)
  case atStart => exact ⟨0, by omega, rfl⟩
  case round =>
    obtain ⟨k, hk, rfl⟩ := hrel
    by_cases hlt : k < 2
    · have cc : w.cell? ⟨b, k, none⟩ = some (.int .i64 0) := by
        match k, hlt with
        | 0, _ => exact c0
        | 1, _ => exact c1
      go_wp2
      go_round
      case rel => exact ⟨k + 1, by omega, by go_num⟩
      case measure => simp [intOf]; omega
    · obtain rfl : k = 2 := by omega
      go_wp2
      go_ret
      exact ⟨rfl, rfl⟩

set_option maxHeartbeats 2000000 in
theorem compare_same (n : Int) (A A' : Option Addr) (c c' : Nat) (gs : List ByteArray) (w : World) (h : Strs w A gs) (h' : Strs w A' gs) (hl : gs.length ≤ 16777216) :
    Calls Tryz.prog 14 #[.agg #[.int .i64 n, .slice A gs.length c], .agg #[.int .i64 n, .slice A' gs.length c']] w fun e w' => e = .returned (.int .i64 0) ∧ Below w.heap.size w w' := by
  go_enter Tryz.func14, Tryz.ntmps14
  go_wp2
  have hb2 : Below w.heap.size w ((w.alloc (.cells #[.int .i64 n, .slice A gs.length c] 27)).alloc (.cells #[.int .i64 n, .slice A' gs.length c'] 27)) := ((Below.refl _ w).alloc (Nat.le_refl _) _).alloc (by simp) _
  have a0 := (World.cell?_alloc_lt (w.alloc (.cells #[.int .i64 n, .slice A gs.length c] 27)) (.cells #[.int .i64 n, .slice A' gs.length c'] 27) ⟨w.heap.size, 0, none⟩ (by simp)).trans (new_cell w _ _ 0)
  have a1 := (World.cell?_alloc_lt (w.alloc (.cells #[.int .i64 n, .slice A gs.length c] 27)) (.cells #[.int .i64 n, .slice A' gs.length c'] 27) ⟨w.heap.size, 1, none⟩ (by simp)).trans (new_cell w _ _ 1)
  have b0 : ((w.alloc (.cells #[.int .i64 n, .slice A gs.length c] 27)).alloc (.cells #[.int .i64 n, .slice A' gs.length c'] 27)).cell? ⟨w.heap.size + 1, 0, none⟩ = some (.int .i64 n) := new_cell2 w _ _ _ 0
  have b1 : ((w.alloc (.cells #[.int .i64 n, .slice A gs.length c] 27)).alloc (.cells #[.int .i64 n, .slice A' gs.length c'] 27)).cell? ⟨w.heap.size + 1, 1, none⟩ = some (.slice A' gs.length c') := new_cell2 w _ _ _ 1
  have s1 := h.below hb2 (Nat.le_refl _)
  have s2 := h'.below hb2 (Nat.le_refl _)
  generalize (w.alloc (.cells #[.int .i64 n, .slice A gs.length c] 27)).alloc (.cells #[.int .i64 n, .slice A' gs.length c'] 27) = W at *
  have S1 := Lib.hid s1
  have S2 := Lib.hid s2
  clear s1 s2 h h'
  go_region_held3 (fun w' => w'.cell? ⟨w.heap.size, 0, none⟩ = some (.int .i64 n) ∧ w'.cell? ⟨w.heap.size, 1, none⟩ = some (.slice A gs.length c) ∧ w'.cell? ⟨w.heap.size + 1, 0, none⟩ = some (.int .i64 n) ∧ w'.cell? ⟨w.heap.size + 1, 1, none⟩ = some (.slice A' gs.length c')) (go_keep)
    (first
      | (go_at_call 34; refine (cmpInt_same _ _).mono ?_; rintro e w1 ⟨rfl, rfl⟩)
      | (go_at_call 35; refine (slicesCompare_same A A' c c' gs _ ?_ ?_ hl).mono ?_; (exact S1.out); (exact S2.out); rintro e w1 ⟨rfl, rfl⟩)
      | (go_at_call 33; refine (or_zero _ _ ?_ ?_).mono ?_; (exact new_cell _ _ _ 0); (exact new_cell _ _ _ 1); rintro e w1 ⟨rfl, rfl⟩))
  go_wp2
  go_ret
  exact ⟨rfl, (hb2.alloc hb2.size _).drew⟩

end Cb
end Go.Proofs.YtmfejegpnfbajaaGreatDoor
