/-
  The walk of the law's check: cell.Name and cell.Parse undo each other; live() is told by the evaluator.
-/
import Derived.Test.YtmfejegpnfbajaaGreatDoorCbCompare
import Derived.Test.YtmfejegpnfbajaaGreatDoorSxLive
namespace Go.Proofs.YtmfejegpnfbajaaGreatDoor
namespace Cb
open Go.RowKit

theorem lists_inj {gs gs' : List ByteArray} (h : lists gs = lists gs') : gs = gs' := by
  induction gs generalizing gs' with
  | nil => cases gs' with
    | nil => rfl
    | cons b t => simp [lists] at h
  | cons a l ih => cases gs' with
    | nil => simp [lists] at h
    | cons b t =>
      simp only [lists, List.map_cons, List.cons.injEq, Array.toList_inj] at h
      rw [ih h.2]
      congr 1
      cases a; cases b
      simp_all

theorem laid_below {w w' : World} (L : Sx.Laid w) {B : Nat} (hB : 12 ≤ B) (hb : Below B w w') : Sx.Laid w' where
  lo := Nat.le_trans L.lo hb.size
  pow := fun j v hj => cell_keep hb (by omega) (L.pow j v hj)
  units := fun j v hj => cell_keep hb (by omega) (L.units j v hj)

/-- Parse of what Name told. -/
theorem parse_name (n : Int) (h0 : -9223372036854775808 ≤ n) (h1 : n ≤ 9223372036854775807) (gs : List ByteArray) (w : World) (E : Env w) (hs : (name n (lists gs)).length ≤ 4194300) :
    Calls Tryz.prog 7 #[.string ⟨(name n (lists gs)).toArray⟩] w fun e w' => (∃ A c, e = .returned (.tuple #[.agg #[.int .i64 n, .slice A gs.length c], .nilIface]) ∧ Strs w' A gs) ∧ Below w.heap.size w w' := by
  refine (parse_any _ w E (by simpa [ByteArray.size] using hs)).mono ?_
  rintro e w' ⟨h, hb⟩
  refine ⟨?_, hb⟩
  rcases h with ⟨m, gs', v, h2, rfl, A, c, rfl, h3, _⟩ | ⟨h2, _⟩
  · simp only [] at h2
    rw [cellParse_name n (lists gs) h0 h1] at h2
    simp only [Option.some.injEq, Prod.mk.injEq] at h2
    obtain ⟨rfl, h4⟩ := h2
    obtain rfl := lists_inj h4
    exact ⟨A, c, rfl, h3⟩
  · simp only [] at h2
    rw [cellParse_name n (lists gs) h0 h1] at h2
    cases h2

theorem cellParse_range {l : List UInt8} {n : Int} {gs : List (List UInt8)} (h : cellParse l = some (n, gs)) : -9223372036854775808 ≤ n ∧ n ≤ 9223372036854775807 := by
  unfold cellParse at h
  split at h
  · rename_i m hm
    obtain ⟨a, _, ha⟩ := Option.bind_eq_some_iff.1 h
    split at ha
    · simp only [Option.some.injEq, Prod.mk.injEq] at ha
      obtain ⟨rfl, _⟩ := ha
      have := Lib.parseIntB_bounds hm
      omega
    · cases ha
  · cases h

theorem set_both {w : World} {g : Nat} {a b : Value} {t : TypeId} (h : w.heap[g]? = some (.cells #[a, b] t (0, 0))) (u v : Value) :
    ((w.setCell ⟨g, 0, none⟩ u).setCell ⟨g, 1, none⟩ v).heap[g]? = some (.cells #[u, v] t (0, 0)) := by
  simp [World.setCell, Array.getElem?_modify, h]

theorem strs_set {w5 w4 : World} {A : Option Addr} {gs : List ByteArray} {k B : Nat} (hg : Strs w4 A gs) (hn : ∀ ad, A = some ad → B ≤ ad.block) (hk : k < B) {u v : Value}
    (hb : Below ((w4.setCell ⟨k, 0, none⟩ u).setCell ⟨k, 1, none⟩ v).heap.size ((w4.setCell ⟨k, 0, none⟩ u).setCell ⟨k, 1, none⟩ v) w5) : Strs w5 A gs := by
  intro hp
  obtain ⟨ad, had, hc⟩ := hg hp
  have hna := hn ad had
  refine ⟨ad, had, fun j hj => ?_⟩
  have hne : k ≠ (ad.add j).block := by unfold Addr.add; split <;> (try simp only []) <;> omega
  have hlt := World.block_lt_of_cell? w4 _ (hc j hj)
  rw [hb.cell (p := ad.add j) (by simpa using hlt), World.cell?_setCell_far _ _ _ _ hne, World.cell?_setCell_far _ _ _ _ hne]
  exact hc j hj

theorem said_of {s : ByteArray} {n : Int} {gs : List ByteArray} (h : cellParse s.data.toList = some (n, lists gs)) (hs : s.size ≤ 1048576) :
    -9223372036854775808 ≤ n ∧ n ≤ 9223372036854775807 ∧ (name n (lists gs) == s.toList) = true ∧ (tail (lists gs)).length ≤ 1048576 ∧ gs.length ≤ 1048576 := by
  have hr := cellParse_range h
  have hn := cellParse_some h
  have hlen : (name n (lists gs)).length ≤ 1048576 := by rw [hn]; simpa using hs
  have ht : (tail (lists gs)).length ≤ 1048576 := by unfold name at hlen; simp at hlen; omega
  have hg : gs.length ≤ 1048576 := by have := tail_length (lists gs); simp [lists] at this ht; omega
  refine ⟨hr.1, hr.2, ?_, ht, hg⟩
  rw [hn, str_list]
  simp

set_option maxHeartbeats 400000 in
set_option maxRecDepth 100000 in
theorem back_any (n : Int) (h0 : -9223372036854775808 ≤ n) (h1 : n ≤ 9223372036854775807) (A : Option Addr) (c : Nat) (gs : List ByteArray) (s : ByteArray) (w : World) (E : Env w) (L : Sx.Laid w) (hg : Strs w A gs)
    (ht : (tail (lists gs)).length ≤ 2097152) (hs : s.size ≤ 1048576) :
    Calls Tryz.prog 4 #[.agg #[.int .i64 n, .slice A gs.length c], .string s] w fun e w' => e = .returned (.bool true) ∧ Below w.heap.size w w' := by
  have hi := Lib.itoa_length_le n h0 h1
  go_enter Tryz.func4, Tryz.ntmps4
  have b1 : Below w.heap.size w (w.alloc (.cells #[.int .i64 n, .slice A gs.length c] 27)) := (Below.refl _ w).alloc (Nat.le_refl _) _
  have hnm : (name n (lists gs)).length ≤ 4194300 := by unfold name; simp; omega
  have hgl : gs.length ≤ 2097152 := by have := tail_length (lists gs); simp [lists] at this ht; omega
  go_wp2_with (first
    | (go_at_call 12
       refine (name_any n2 hr0 hr1 A2 c2 gs2 _ E6 hg6 (by omega) (by omega)).mono ?_
       rintro e w6 ⟨rfl, hb7⟩)
    | (go_at_call 12
       refine (name_any n h0 h1 A c gs _ (E.below E.lo b1) (hg.below b1 (Nat.le_refl _)) (by omega) (by omega)).mono ?_
       rintro e w1 ⟨rfl, hb1⟩
       have hb01 : Below w.heap.size w w1 := b1.trans (hb1.mono (by simp))
       have E1 := E.below E.lo hb01
       have c0 : w1.cell? ⟨w.heap.size, 0, none⟩ = some (.int .i64 n) := (hb1.cell (p := ⟨w.heap.size, 0, none⟩) (by simp)).trans (new_cell w _ _ 0)
       have c1 : w1.cell? ⟨w.heap.size, 1, none⟩ = some (.slice A gs.length c) := (hb1.cell (p := ⟨w.heap.size, 1, none⟩) (by simp)).trans (new_cell w _ _ 1)
       have hl1 : w.heap.size < w1.heap.size := by have := hb1.size; simp at this; omega)
    | (go_at_call 7
       refine (parse_any s _ E3 (by omega)).mono ?_
       rintro e w4 ⟨hpe, hb5⟩
       have hb05 : Below w.heap.size w w4 := hb03.trans (hb5.mono (by omega))
       have hk4 : w4.heap[w2.heap.size]? = some (.cells #[.int .i64 n, .slice A' gs.length c'] 27 (0, 0)) := (hb5.block _ hl3).trans hk3
       have f0 := rowf (i := 0) hk4
       have f1 := rowf (i := 1) hk4
       have q0 := row0 hk4
       have q1 := row1 hk4
       have hl4 : w2.heap.size < w4.heap.size := Nat.lt_of_lt_of_le hl3 hb5.size
       have HK4 := Lib.hid hk4
       clear hk4 hk3 c0 c1 d0 d1 e0 e1
       rcases hpe with ⟨n2, gs2, v2, hcp, rfl, A2, c2, rfl, hg4, hnew⟩ | ⟨hcp, rfl⟩)
    | (go_at_call 7
       refine (parse_name n h0 h1 gs _ E1 hnm).mono ?_
       rintro e w2 ⟨⟨A', c', rfl, hg2⟩, hb2⟩
       have hb02 : Below w.heap.size w w2 := hb01.trans (hb2.mono (Nat.le_of_lt hl1))
       have hl2 : w.heap.size < w2.heap.size := Nat.lt_of_lt_of_le hl1 hb2.size
       have hb3 : Below w2.heap.size w2 (w2.alloc (.cells #[.int .i64 n, .slice A' gs.length c'] 27)) := (Below.refl _ w2).alloc (Nat.le_refl _) _
       have d0 : (w2.alloc (.cells #[.int .i64 n, .slice A' gs.length c'] 27)).cell? ⟨w.heap.size, 0, none⟩ = some (.int .i64 n) := (hb3.cell (p := ⟨w.heap.size, 0, none⟩) hl2).trans ((hb2.cell (p := ⟨w.heap.size, 0, none⟩) hl1).trans c0)
       have d1 : (w2.alloc (.cells #[.int .i64 n, .slice A' gs.length c'] 27)).cell? ⟨w.heap.size, 1, none⟩ = some (.slice A gs.length c) := (hb3.cell (p := ⟨w.heap.size, 1, none⟩) hl2).trans ((hb2.cell (p := ⟨w.heap.size, 1, none⟩) hl1).trans c1)
       have e0 : (w2.alloc (.cells #[.int .i64 n, .slice A' gs.length c'] 27)).cell? ⟨w2.heap.size, 0, none⟩ = some (.int .i64 n) := new_cell w2 _ _ 0
       have e1 : (w2.alloc (.cells #[.int .i64 n, .slice A' gs.length c'] 27)).cell? ⟨w2.heap.size, 1, none⟩ = some (.slice A' gs.length c') := new_cell w2 _ _ 1)
    | (go_at_call 14
       refine (compare_same n A A' c c' gs _ (hg.below (hb02.trans (hb3.mono (Nat.le_of_lt hl2))) (Nat.le_refl _)) (hg2.below hb3 (Nat.le_refl _)) (by omega)).mono ?_
       rintro e w3 ⟨rfl, hb4⟩
       have hb03 : Below w.heap.size w w3 := (hb02.trans (hb3.mono (Nat.le_of_lt hl2))).trans (hb4.mono (by simp; omega))
       have E3 := E.below E.lo hb03
       have hl3 : w2.heap.size < w3.heap.size := by have := hb4.size; simp at this; omega
       have hk3 : w3.heap[w2.heap.size]? = some (.cells #[.int .i64 n, .slice A' gs.length c'] 27 (0, 0)) := (hb4.block _ (by simp)).trans (heap_alloc_new w2 _))
    | (go_at_call 9
       refine (Sx.live_any (laid_below L E.lo (((hb05).setCell (p := ⟨w2.heap.size, 0, none⟩) (Nat.le_of_lt hl2) _).setCell (p := ⟨w2.heap.size, 1, none⟩) (Nat.le_of_lt hl2) _))).mono ?_
       rintro e w5 ⟨rfl, hb6⟩
       have hb06 : Below w.heap.size w w5 := (((hb05).setCell (p := ⟨w2.heap.size, 0, none⟩) (Nat.le_of_lt hl2) _).setCell (p := ⟨w2.heap.size, 1, none⟩) (Nat.le_of_lt hl2) _).trans (hb6.mono (by have := hb05.size; simp; omega))
       have hk5 := (hb6.block w2.heap.size (by simp; omega)).trans (set_both HK4.out _ _)
       have q0' := row0 hk5
       have q1' := row1 hk5
       have E6 := E.below E.lo hb06
       clear f0 f1 q0 q1 hk5
       try
         have hg6 := strs_set hg4 hnew hl3 hb6
         obtain ⟨hr0, hr1, hq, htl2, hgl2⟩ := said_of hcp hs))
  · go_ret
    exact ⟨rfl, hb06.trans (hb7.mono (by have := hb06.size; omega))⟩
  · go_ret
    exact ⟨rfl, hb06⟩

end Cb
end Go.Proofs.YtmfejegpnfbajaaGreatDoor
