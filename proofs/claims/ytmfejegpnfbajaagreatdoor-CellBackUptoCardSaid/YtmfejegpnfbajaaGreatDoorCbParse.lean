/-
  The walk of cell.Parse: of any text it tells what the plain reading tells, and makes memory alone.
-/
import Derived.Test.YtmfejegpnfbajaaGreatDoorCbName
import Derived.Laws.OwnMore
namespace Go.Proofs.YtmfejegpnfbajaaGreatDoor
namespace Cb
open Go.RowKit

def strs (gs : List ByteArray) : List Value := gs.map Value.string

/-- A slice value that reads as strings. -/
def Gv (w : World) (base : Nat) (v : Value) (gs : List ByteArray) : Prop := ∃ A c, v = .slice A gs.length c ∧ Strs w A gs ∧ ∀ ad, A = some ad → base ≤ ad.block

theorem Gv.of_own {w : World} {base n : Nat} {v : Value} {gs : List ByteArray} (h : w.ownsRow base 9 1 v n (strs gs)) : Gv w base v gs := by
  have hl : gs.length = n := by have := h.1; simp [strs] at this; exact this
  subst hl
  have hlt := h.lt
  rcases h.2 with ⟨rfl, h0⟩ | ⟨g, cap, cur, rfl, _⟩
  · exact ⟨none, 0, by rw [h0], fun hp => absurd hp (by omega), fun ad had => by cases had⟩
  · exact ⟨_, cap, rfl, fun _ => ⟨_, rfl, fun j hj => h.cells (g := g) rfl j _ (by simp [strs, List.getElem?_eq_getElem hj])⟩, fun ad had => by cases had; exact (hlt g rfl).1⟩
theorem Gv.low {w : World} {base base' : Nat} {v : Value} {gs : List ByteArray} (h : Gv w base v gs) (hb : base' ≤ base) : Gv w base' v gs := by
  obtain ⟨A, c, h1, h2, h3⟩ := h
  exact ⟨A, c, h1, h2, fun ad had => Nat.le_trans hb (h3 ad had)⟩

theorem stringInfo : (Tryz.prog.info? 9).map (fun i => (i.zero, i.size, i.bytes)) = some (some (.string ⟨#[]⟩), 1, 16) := by kernel_rfl

/-- How far the reading of the texts has come: at an error none; at the end what has been read; else what is read on. -/
def Reading (T : Option (List (List UInt8))) (rest : List UInt8) (gs : List ByteArray) (more : Bool) (err : Value) : Prop :=
  (err = .nilIface ∧ more = true ∧ ∃ f, rest.length < f ∧ T = (pg f rest).map (lists gs ++ ·)) ∨
  (err = .nilIface ∧ more = false ∧ T = some (lists gs)) ∨
  (∃ t x, err = .iface t x ∧ T = none)

def mu (r m e : Value) : Nat := match e with
  | .nilIface => (match m with | .bool true => (match r with | .string s => s.size + 2 | _ => 0) | _ => 1)
  | _ => 0

/-- How cell.Parse ends. -/
def ParseEnd (base : Nat) (l : List UInt8) (e : Ending) (w' : World) : Prop :=
  (∃ n gs v, cellParse l = some (n, lists gs) ∧ e = .returned (.tuple #[.agg #[.int .i64 n, v], .nilIface]) ∧ Gv w' base v gs) ∨
  (cellParse l = none ∧ e = .returned (.tuple #[.agg #[.int .i64 0, .slice none 0 0], .iface 32 (.int .i64 31)]))

theorem cut_any (s : ByteArray) (w : World) (E : Env w) (hs : s.size ≤ 4194300) :
    Calls Tryz.prog 21 #[.string s, .string ⟨#[44]⟩] w fun e w' => e = .returned (.tuple #[.string ⟨(Lib.cut s.data.toList [44]).1.toArray⟩, .string ⟨(Lib.cut s.data.toList [44]).2.1.toArray⟩, .bool (Lib.cut s.data.toList [44]).2.2]) ∧ Below w.heap.size w w' := by
  obtain ⟨m, hm⟩ := E.most
  refine (Tryz.strings_Cut s ⟨#[44]⟩ m w (by omega) hm).mono ?_
  rintro e w' ⟨rfl, n, rfl⟩
  exact ⟨rfl, below_drew_ w n⟩

theorem parseInt_ok (s : ByteArray) (w : World) (hs : s.size ≤ 4194300) (n : Int) (h : Lib.parseIntB 64 s.data.toList = .ok n) :
    Calls Tryz.prog 22 #[.string s, .int .i64 10, .int .i64 64] w fun e w' => e = .returned (.tuple #[.int .i64 n, .nilIface]) ∧ Below w.heap.size w w' := by
  refine (Tryz.strconv_ParseInt_10_at64_ok s (by omega) n h w).mono ?_
  rintro e w' ⟨rfl, hw⟩
  refine ⟨rfl, ?_⟩
  rcases hw with rfl | ⟨t, rfl⟩
  · exact Below.refl _ _
  · exact Lib.bytesWorld_below _ _ _

theorem parseInt_bad (s : ByteArray) (w : World) (E : Env w) (hs : s.size ≤ 4194300) (h : ∀ n, Lib.parseIntB 64 s.data.toList ≠ .ok n) :
    Calls Tryz.prog 22 #[.string s, .int .i64 10, .int .i64 64] w fun e w' => (∃ n t x, e = .returned (.tuple #[.int .i64 n, .iface t x])) ∧ Below w.heap.size w w' := by
  cases hp : Lib.parseIntB 64 s.data.toList
  · exact absurd hp (h _)
  · obtain ⟨ev, hv, hev⟩ := E.syn
    refine (Tryz.strconv_ParseInt_10_at64_syntax s (by omega) hp ev w hv hev).mono ?_
    rintro e w' ⟨N, rfl, _, _, hb⟩
    exact ⟨⟨_, _, _, rfl⟩, hb⟩
  · obtain ⟨ev, hv, hev⟩ := E.rng
    refine (Tryz.strconv_ParseInt_10_at64_range s (by omega) hp ev w hv hev).mono ?_
    rintro e w' ⟨N, rfl, _, _, hb⟩
    exact ⟨⟨_, _, _, rfl⟩, hb⟩

theorem unescape_some (l : List UInt8) (w : World) (hs : l.length ≤ 4194300) (p : List UInt8 × Nat) (h : unesc l = some p) :
    Calls Tryz.prog 23 #[.string ⟨l.toArray⟩] w fun e w' => e = .returned (.tuple #[.string ⟨p.1.toArray⟩, .int .i64 (p.2 : Nat), .nilIface]) ∧ Below w.heap.size w w' := by
  refine (unescape_any ⟨l.toArray⟩ w (show l.toArray.size ≤ _ by simp; omega)).mono ?_
  rintro e w' ⟨⟨q, hq, rfl⟩ | ⟨hn, _⟩, hb⟩
  · rw [show (⟨l.toArray⟩ : ByteArray).data.toList = l from rfl, h] at hq
    obtain rfl := Option.some.inj hq
    exact ⟨rfl, hb⟩
  · rw [show (⟨l.toArray⟩ : ByteArray).data.toList = l from rfl, h] at hn
    cases hn

theorem unescape_none (l : List UInt8) (w : World) (hs : l.length ≤ 4194300) (h : unesc l = none) :
    Calls Tryz.prog 23 #[.string ⟨l.toArray⟩] w fun e w' => (∃ pos : Int, e = .returned (.tuple #[.string ⟨#[]⟩, .int .i64 0, .iface 89 (.agg #[.int .i64 pos, .iface 32 (.int .i64 53)])])) ∧ Below w.heap.size w w' := by
  refine (unescape_any ⟨l.toArray⟩ w (show l.toArray.size ≤ _ by simp; omega)).mono ?_
  rintro e w' ⟨⟨q, hq, rfl⟩ | ⟨hn, pos, rfl⟩, hb⟩
  · rw [show (⟨l.toArray⟩ : ByteArray).data.toList = l from rfl, h] at hq
    cases hq
  · exact ⟨⟨pos, rfl⟩, hb⟩

theorem cutPrefix_comma (l : List UInt8) (w : World) :
    Calls Tryz.prog 24 #[.string ⟨l.toArray⟩, .string ⟨#[44]⟩] w fun e w' => e = .returned (.tuple #[.string ⟨(if l.head? = some 44 then l.tail else l).toArray⟩, .bool (decide (l.head? = some 44))]) ∧ w = w' := by
  refine (Tryz.strings_CutPrefix ⟨l.toArray⟩ ⟨#[44]⟩ w).mono ?_
  rintro e w' ⟨rfl, rfl⟩
  refine ⟨?_, rfl⟩
  rw [show (⟨l.toArray⟩ : ByteArray).data.toList = l from rfl, show (⟨#[44]⟩ : ByteArray).data.toList = [44] from rfl]
  cases l with
  | nil => rfl
  | cons c l =>
    by_cases hc : c = 44
    · subst hc; simp [Lib.trimPrefix, Lib.hasPrefix]
    · have hne : (44 == c) = false := by rw [beq_eq_false_iff_ne]; rintro rfl; exact hc rfl
      have hp : ([44] : List UInt8).isPrefixOf (c :: l) = false := by simp only [List.isPrefixOf, hne, Bool.false_and]
      simp [Lib.trimPrefix, Lib.hasPrefix, hc, hp]

theorem pg_none {f : Nat} {rest : List UInt8} {L : List (List UInt8)} (h : unesc rest = none) : (pg f rest).map (L ++ ·) = none := by
  cases f with
  | zero => rfl
  | succ f => simp [pg, h]
theorem pg_last {f : Nat} {rest : List UInt8} {L : List (List UInt8)} {p : List UInt8 × Nat} (hf : rest.length < f) (h : unesc rest = some p) (hc : ¬ (rest.drop p.2).head? = some 44) : (pg f rest).map (L ++ ·) = some (L ++ [p.1]) := by
  obtain ⟨f, rfl⟩ : ∃ m, f = m + 1 := ⟨f - 1, by omega⟩
  simp only [pg, h]
  cases hd : rest.drop p.2 with
  | nil => simp
  | cons c r =>
    rw [hd] at hc
    have : ¬ c = 44 := fun e => hc (by rw [e]; rfl)
    simp [this]
theorem pg_more {f : Nat} {rest : List UInt8} {L : List (List UInt8)} {p : List UInt8 × Nat} (hf : rest.length < f) (h : unesc rest = some p) (hc : (rest.drop p.2).head? = some 44) :
    ∃ f', (rest.drop p.2).tail.length < f' ∧ (rest.drop p.2).tail.length + p.2 + 1 = rest.length ∧ (pg f rest).map (L ++ ·) = (pg f' (rest.drop p.2).tail).map ((L ++ [p.1]) ++ ·) := by
  obtain ⟨f, rfl⟩ : ∃ m, f = m + 1 := ⟨f - 1, by omega⟩
  cases hd : rest.drop p.2 with
  | nil => rw [hd] at hc; cases hc
  | cons c r =>
    rw [hd] at hc
    obtain rfl : c = 44 := by simpa using hc
    have hl : (rest.drop p.2).length = r.length + 1 := by rw [hd]; rfl
    have hl2 : (rest.drop p.2).length = rest.length - p.2 := by simp
    refine ⟨f, by simp; omega, by simp; omega, ?_⟩
    simp only [pg, h, hd]
    simp [Option.map_map, Function.comp_def]

theorem str_list (s : ByteArray) : s.toList = s.data.toList := by
  have h := Lib.extract_toList s 0 s.size
  have h2 := Lib.extract_data s 0 s.size
  rw [← h2] at h
  rwa [show s.extract 0 s.size = s from by apply ByteArray.ext; apply Array.toList_inj.1; rw [h2]; exact List.take_of_length_le (by simp)] at h

theorem lists_snoc (gs : List ByteArray) (g : List UInt8) : lists (gs ++ [⟨g.toArray⟩]) = lists gs ++ [g] := by simp [lists]
theorem tail_more (gs : List ByteArray) (g : List UInt8) : (tail (lists (gs ++ [⟨g.toArray⟩]))).length = (tail (lists gs)).length + 1 + (esc g).length := by
  rw [lists_snoc, tail_snoc]; simp; omega

theorem keep_heap {B : Nat} {w w' : World} (hb : Below B w w') {g : Nat} (hg : g < B) {o : Obj} (h : w.heap[g]? = some o) : w'.heap[g]? = some o := (hb.block g hg).trans h
theorem grown_below {w w1 : World} (h : Below w.heap.size w w1) (row : Option Nat) : w.grownBy w1 row := ⟨h.os, h.tape, h.output, h.size, fun i hi _ => h.block i hi⟩
theorem own_below {w w1 : World} {base : Nat} {e : TypeId} {size n : Nat} {v : Value} {xs : List Value} (h : w.ownsRow base e size v n xs) (hb : Below w.heap.size w w1) : w1.ownsRow base e size v n xs :=
  h.kept (grown_below hb none) (by cases v.ownBlock <;> simp)
theorem row0 {w : World} {g : Nat} {a b : Value} {t : TypeId} (h : w.heap[g]? = some (.cells #[a, b] t (0, 0))) : w.cell? ⟨g, 0, none⟩ = some a := cell_of_row _ _ 0 _ _ _ h
theorem row1 {w : World} {g : Nat} {a b : Value} {t : TypeId} (h : w.heap[g]? = some (.cells #[a, b] t (0, 0))) : w.cell? ⟨g, 1, none⟩ = some b := cell_of_row _ _ 1 _ _ _ h
theorem rowf {w : World} {g i : Nat} {cs : Array Value} {t : TypeId} (h : w.heap[g]? = some (.cells cs t (0, 0))) : w.frozen? ⟨g, i, none⟩ = false := Lib.frozen_of_heap h i

theorem own_ne {w : World} {base : Nat} {e : TypeId} {size n : Nat} {v : Value} {xs : List Value} (h : w.ownsRow base e size v n xs) {k : Nat} (hk : k < base) : some k ≠ v.ownBlock := fun he => by
  have := (h.lt k he.symm).1; omega
theorem set_other {w : World} {g k : Nat} {i : Nat} {u : Value} (hne : g ≠ k) {o : Obj} (h : w.heap[g]? = some o) : (w.setCell ⟨k, i, none⟩ u).heap[g]? = some o := (Below.heap_setCell w ⟨k, i, none⟩ u g hne).trans h
theorem set_row1 {w : World} {g : Nat} {a b u : Value} {t : TypeId} (h : w.heap[g]? = some (.cells #[a, b] t (0, 0))) : (w.setCell ⟨g, 1, none⟩ u).heap[g]? = some (.cells #[a, u] t (0, 0)) := by
  simp [World.setCell, Array.getElem?_modify, h]
theorem own_set {w : World} {base k i : Nat} {e : TypeId} {size n : Nat} {v u : Value} {xs : List Value} (h : w.ownsRow base e size v n xs) (hk : k < base) : (w.setCell ⟨k, i, none⟩ u).ownsRow base e size v n xs := by
  refine h.kept (row := some k) ⟨rfl, rfl, rfl, by simp [World.setCell], fun j hj hne => Below.heap_setCell w ⟨k, i, none⟩ u j (fun e => hne (by rw [e]))⟩ ?_
  exact .inr (fun e => own_ne h hk e.symm)
theorem own_form {w : World} {base : Nat} {e : TypeId} {size n : Nat} {v : Value} {xs : List Value} (h : w.ownsRow base e size v n xs) : ∃ A c, v = .slice A n c := by
  rcases h.2 with ⟨rfl, rfl⟩ | ⟨g, cap, cur, rfl, _⟩
  · exact ⟨none, 0, rfl⟩
  · exact ⟨_, cap, rfl⟩
theorem drop_str (l : List UInt8) (k : Nat) : (⟨l.toArray⟩ : ByteArray).extract k (⟨l.toArray⟩ : ByteArray).size = ⟨(l.drop k).toArray⟩ := by
  have h := Lib.extract_to_end ⟨l.toArray⟩ k
  apply ByteArray.ext
  apply Array.toList_inj.1
  rw [h]

theorem cutPrefix_more (l : List UInt8) (k : Nat) (w : World) (h : (l.drop k).head? = some 44) :
    Calls Tryz.prog 24 #[.string ((⟨l.toArray⟩ : ByteArray).extract k l.length), .string ⟨#[44]⟩] w fun e w' => e = .returned (.tuple #[.string ⟨(l.drop k).tail.toArray⟩, .bool true]) ∧ w = w' := by
  have hd := drop_str l k
  rw [show (⟨l.toArray⟩ : ByteArray).size = l.length from by show l.toArray.size = _; simp] at hd
  rw [hd]
  refine (cutPrefix_comma (l.drop k) w).mono ?_
  rintro e w' ⟨rfl, rfl⟩
  refine ⟨?_, rfl⟩
  rw [if_pos h, decide_eq_true h]

theorem cutPrefix_end (l : List UInt8) (k : Nat) (w : World) (h : ¬ (l.drop k).head? = some 44) :
    Calls Tryz.prog 24 #[.string ((⟨l.toArray⟩ : ByteArray).extract k l.length), .string ⟨#[44]⟩] w fun e w' => e = .returned (.tuple #[.string ⟨(l.drop k).toArray⟩, .bool false]) ∧ w = w' := by
  have hd := drop_str l k
  rw [show (⟨l.toArray⟩ : ByteArray).size = l.length from by show l.toArray.size = _; simp] at hd
  rw [hd]
  refine (cutPrefix_comma (l.drop k) w).mono ?_
  rintro e w' ⟨rfl, rfl⟩
  refine ⟨?_, rfl⟩
  rw [if_neg h, decide_eq_false h]

/-- append(v, x): one string more. -/
theorem app_str {ops : Array Oper} {rest : List Oper} {o : Oper} {a : Act} {Q : Exit → Act → World → Prop} {W : World} (base : Nat) (hgd : o.guard = none) (s x : Operand)
    (ho : o.op = .call { callee := .builtin .append, args := #[s, x], argTypes := #[22, 22] })
    (v : Value) (gs : List ByteArray) (g : ByteArray) (hs : a.eval s = v) (hx : a.eval x = .slice (some ⟨W.heap.size, 0, none⟩) 1 1)
    (HO : W.ownsRow base 9 1 v gs.length (strs gs)) (hbase : base ≤ W.heap.size) (hl : gs.length ≤ 16777216)
    (h : ∀ v1 w1, w1.ownsRow base 9 1 v1 (gs ++ [g]).length (strs (gs ++ [g])) → W.grownBy w1 v.ownBlock → wpList Tryz.prog ops Q rest (a.put o.dst v1) w1) :
    wpList Tryz.prog ops Q (o :: rest) a (W.alloc (.cells #[.string g] 9)) := by
  obtain ⟨i0, hi, hz0, hz1, hz2⟩ := info_parts stringInfo
  refine wpList_append_own (W.alloc (.cells #[.string g] 9)) hgd s x 22 ho base 9 i0 (.string ⟨#[]⟩) 1 16 Tryz.underlying22 hi hz0 hz1 hz2 rfl (by decide) v gs.length (strs gs) hs (HO.alloc _) ⟨W.heap.size, 0, none⟩ 1 1 [.string g] hx rfl
    (fun j u hu => ?_) (fun u hu => ?_) (by simp only [maxLen]; omega) (by omega) (by simp; omega) ?_
  · match j, hu with
    | 0, hu => simp at hu; subst hu; exact new_cell W _ _ 0
  · simp at hu; subst hu; rfl
  intro v1 w1 hown hg _
  exact h v1 w1 (by simpa [strs] using hown) (World.grownBy.trans (World.grownBy_alloc W _ _) hg)

set_option maxHeartbeats 2000000 in
set_option maxRecDepth 100000 in
theorem parse_good (s : ByteArray) (w : World) (E : Env w) (hs : s.size ≤ 4194300) (n : Int) (h : Lib.parseIntB 64 (Lib.cut s.data.toList [44]).1 = .ok n) :
    Calls Tryz.prog 7 #[.string s] w fun e w' => ParseEnd w.heap.size s.data.toList e w' ∧ Below w.heap.size w w' := by
  obtain ⟨i0, hi, hz0, hz1, hz2⟩ := info_parts stringInfo
  have HP := Lib.hid h
  clear h
  have hl := cut_length s.data.toList [44]
  rw [show s.data.toList.length = s.size from by simp] at hl
  generalize hcut : Lib.cut s.data.toList [44] = C at HP hl
  have HC := Lib.hid hcut
  clear hcut
  obtain ⟨dig, rest0, more0⟩ := C
  have hl1 : dig.length ≤ s.size := hl.1
  have hl2 : rest0.length ≤ s.size := hl.2
  clear hl
  go_enter Tryz.func7, Tryz.ntmps7
  have b0 : Below w.heap.size w (w.alloc (.cells #[.int .i64 0, .slice none 0 0] 27)) := (Below.refl _ w).alloc (Nat.le_refl _) _
  have hCut := cut_any s _ (E.below E.lo b0) hs
  rw [HC.out] at hCut
  have HCut := Lib.hid hCut
  clear hCut
  go_wp2_with (go_at_call 21; refine HCut.out.mono ?_; rintro e w1 ⟨rfl, hb1⟩)
  go_wp2_with (go_at_call 22; refine (parseInt_ok _ _ (show dig.toArray.size ≤ 4194300 by simp; omega) n HP.out).mono ?_; rintro e w2 ⟨rfl, hb2⟩)
  have hb02 : Below w.heap.size w w2 := (b0.trans (hb1.mono (by simp))).trans (hb2.mono (by have := hb1.size; simp at this; omega))
  have hs2 : w.heap.size < w2.heap.size := by have h1 := hb1.size; have h2 := hb2.size; simp at h1; omega
  have hk0 : w2.heap[w.heap.size]? = some (.cells #[.int .i64 0, .slice none 0 0] 27 (0, 0)) := by
    rw [hb2.block _ (by have h1 := hb1.size; simp at h1; omega), hb1.block _ (by simp)]
    exact heap_alloc_new w _
  have E2 := E.below E.lo hb02
  clear HCut hb1 hb2
  generalize hT : groupsOf more0 rest0 = T
  have HT := Lib.hid hT
  clear hT
  have HCP : Hid (cellParse s.data.toList = T.bind fun gs => if name n gs = s.data.toList then some (n, gs) else none) := by
    show _ = _
    unfold cellParse
    rw [HC.out]
    simp only [HP.out, HT.out]
  go_loopw [5, 6, 8] (fun r m e wr => ∃ (rest : List UInt8) (gs : List ByteArray) (v : Value) (more : Bool), r = .string ⟨rest.toArray⟩ ∧ m = .bool more ∧ Reading T rest gs more e ∧ rest.length ≤ s.size ∧ (more = true → e = .nilIface → (tail (lists gs)).length + 2 * rest.length ≤ 2 * s.size + 1) ∧ (tail (lists gs)).length ≤ 2 * s.size + 3 ∧
      Hid (wr.heap[w.heap.size]? = some (.cells #[.int .i64 0, .slice none 0 0] 27 (0, 0))) ∧ Hid (wr.heap[w2.heap.size]? = some (.cells #[.int .i64 n, v] 27 (0, 0))) ∧ wr.ownsRow (w2.heap.size + 1) 9 1 v gs.length (strs gs) ∧ Below w2.heap.size w2 wr) (fun r m e _ => mu r m e)
  case atStart =>
    refine ⟨rest0, [], .slice none 0 0, more0, rfl, rfl, ?_, hl2, fun _ _ => by simp [lists, tail]; omega, by simp [lists, tail], ?_, ?_, World.ownsRow_nil _ _ _ _, (Below.refl _ _).alloc (Nat.le_refl _) _⟩
    · rw [← HT.out]
      cases more0 with
      | true => exact .inl ⟨rfl, rfl, _, Nat.lt_succ_self _, by simp [groupsOf, lists]⟩
      | false => exact .inr (.inl ⟨rfl, rfl, by simp [groupsOf, lists]⟩)
    · exact (Below.heap_alloc _ _ _ hs2).trans hk0
    · exact heap_alloc_new w2 _
  case round =>
    obtain ⟨rest, gs, v, more, rfl, rfl, HR, hrl, hgl, htl, Hk0, Hk9, hown, hbr⟩ := hrel
    have hsz2 := hbr.size
    have hl9 : w2.heap.size < wr.heap.size := (Array.getElem?_eq_some_iff.1 Hk9.out).1
    have hglen : gs.length ≤ 2 * s.size + 3 := Nat.le_trans (by have := tail_length (lists gs); simpa [lists] using this) htl
    rcases HR with ⟨rfl, rfl, f, hf, HR⟩ | ⟨rfl, rfl, HR⟩ | ⟨et, ex, rfl, HR⟩
    · have HRT := Lib.hid HR
      clear HR
      have hgl' := hgl rfl rfl
      clear hgl
      cases hu : unesc rest with
      | none =>
        have HU := Lib.hid hu
        clear hu
        go_wp2_with (first
          | (go_at_call 23
             refine (unescape_none rest _ (by omega) HU.out).mono ?_
             rintro e w3 ⟨⟨pos, rfl⟩, hb3⟩
             have hl3 := hb3.size
             have Hk93 := Lib.hid (keep_heap hb3 hl9 Hk9.out)
             have Hk03 := Lib.hid (keep_heap hb3 (by omega) Hk0.out)
             have hown3 := own_below hown hb3
             have c91 := row1 Hk93.out
             have f91 := rowf (i := 1) Hk93.out)
          | (at_builtin
             refine app_str (w2.heap.size + 1) rfl _ _ rfl v gs ⟨#[]⟩ rfl rfl hown3 (by omega) (by omega) ?_
             intro v1 w4 hown4 hg4
             obtain ⟨A1, cap1, rfl⟩ := own_form hown4
             have hl4 := hg4.size
             have Hk94 := Lib.hid ((hg4.block _ (by omega) (own_ne hown3 (by omega))).trans Hk93.out)
             have Hk04 := Lib.hid ((hg4.block _ (by omega) (own_ne hown3 (by omega))).trans Hk03.out)
             have d91 := row1 Hk94.out
             have g91 := rowf (i := 1) Hk94.out))
        go_roundw
        case rel =>
          refine ⟨rest, gs ++ [⟨#[]⟩], _, true, rfl, rfl, .inr (.inr ⟨_, _, rfl, by rw [HRT.out]; exact pg_none HU.out⟩), hrl, (fun _ h => by cases h), ?_, set_other (by omega) Hk04.out, set_row1 Hk94.out, (by have h5 := own_set (k := w2.heap.size) (i := 1) (u := Value.slice A1 (gs.length + 1) cap1) hown4 (by omega); simpa using h5), ?_⟩
          · have := tail_more gs []; simp only [esc, List.length_nil] at this; rw [show (⟨#[]⟩ : ByteArray) = ⟨([] : List UInt8).toArray⟩ from rfl]; omega
          · exact ((hbr.trans (hb3.mono hsz2)).grown hg4 (by omega) (fun k hk => by have := (hown3.lt k hk).1; omega)).setCell (p := ⟨w2.heap.size, 1, none⟩) (Nat.le_refl _) _
        case measure => simp [mu]
      | some p =>
        have hp := unesc_le rest.length rest (Nat.le_refl _) p hu
        have HU := Lib.hid hu
        clear hu
        have hdr := drop_str rest p.2
        by_cases hh : (rest.drop p.2).head? = some 44
        · obtain ⟨f', hf1, hf2, hf3⟩ := pg_more (L := lists gs) hf HU.out hh
          have HF2 := Lib.hid hf2
          clear hf2
          have HF1 := Lib.hid hf1
          clear hf1
          have HF := Lib.hid hf3
          clear hf3
          have HH := Lib.hid hh
          clear hh
          go_wp2_with (first
            | (go_at_call 23
               refine (unescape_some rest _ (by omega) p HU.out).mono ?_
               rintro e w3 ⟨rfl, hb3⟩
               have hl3 := hb3.size
               have Hk93 := Lib.hid (keep_heap hb3 hl9 Hk9.out)
               have Hk03 := Lib.hid (keep_heap hb3 (by omega) Hk0.out)
               have hown3 := own_below hown hb3
               have c91 := row1 Hk93.out
               have f91 := rowf (i := 1) Hk93.out)
            | (at_builtin
               refine app_str (w2.heap.size + 1) rfl _ _ rfl v gs ⟨p.1.toArray⟩ rfl rfl hown3 (by omega) (by omega) ?_
               intro v1 w4 hown4 hg4
               obtain ⟨A1, cap1, rfl⟩ := own_form hown4
               have hl4 := hg4.size
               have Hk94 := Lib.hid ((hg4.block _ (by omega) (own_ne hown3 (by omega))).trans Hk93.out)
               have Hk04 := Lib.hid ((hg4.block _ (by omega) (own_ne hown3 (by omega))).trans Hk03.out)
               have d91 := row1 Hk94.out
               have g91 := rowf (i := 1) Hk94.out)
            | (go_at_call 24
               refine (cutPrefix_more rest p.2 _ HH.out).mono ?_
               rintro e w5 ⟨rfl, rfl⟩))
          go_roundw
          case rel =>
            refine ⟨(rest.drop p.2).tail, gs ++ [⟨p.1.toArray⟩], _, true, by rw [List.tail_drop], rfl, .inl ⟨rfl, rfl, f', HF1.out, by rw [HRT.out, HF.out, lists_snoc]⟩, by have := HF2.out; omega, (fun _ _ => ?_), ?_, set_other (by omega) Hk04.out, set_row1 Hk94.out, (by have h5 := own_set (k := w2.heap.size) (i := 1) (u := Value.slice A1 (gs.length + 1) cap1) hown4 (by omega); simpa using h5), ?_⟩
            · have h1 := tail_more gs p.1; have h2 := esc_length p.1; have h3 := HF2.out; omega
            · have h1 := tail_more gs p.1; have h2 := esc_length p.1; omega
            · exact ((hbr.trans (hb3.mono hsz2)).grown hg4 (by omega) (fun k hk => by have := (hown3.lt k hk).1; omega)).setCell (p := ⟨w2.heap.size, 1, none⟩) (Nat.le_refl _) _
          case measure => have h3 := HF2.out; simp only [List.length_tail, List.length_drop] at h3; simp [mu, ByteArray.size]; omega
        · have hf3 := pg_last (L := lists gs) hf HU.out hh
          have HF := Lib.hid hf3
          clear hf3
          have HH := Lib.hid hh
          clear hh
          go_wp2_with (first
            | (go_at_call 23
               refine (unescape_some rest _ (by omega) p HU.out).mono ?_
               rintro e w3 ⟨rfl, hb3⟩
               have hl3 := hb3.size
               have Hk93 := Lib.hid (keep_heap hb3 hl9 Hk9.out)
               have Hk03 := Lib.hid (keep_heap hb3 (by omega) Hk0.out)
               have hown3 := own_below hown hb3
               have c91 := row1 Hk93.out
               have f91 := rowf (i := 1) Hk93.out)
            | (at_builtin
               refine app_str (w2.heap.size + 1) rfl _ _ rfl v gs ⟨p.1.toArray⟩ rfl rfl hown3 (by omega) (by omega) ?_
               intro v1 w4 hown4 hg4
               obtain ⟨A1, cap1, rfl⟩ := own_form hown4
               have hl4 := hg4.size
               have Hk94 := Lib.hid ((hg4.block _ (by omega) (own_ne hown3 (by omega))).trans Hk93.out)
               have Hk04 := Lib.hid ((hg4.block _ (by omega) (own_ne hown3 (by omega))).trans Hk03.out)
               have d91 := row1 Hk94.out
               have g91 := rowf (i := 1) Hk94.out)
            | (go_at_call 24
               refine (cutPrefix_end rest p.2 _ HH.out).mono ?_
               rintro e w5 ⟨rfl, rfl⟩))
          go_roundw
          case rel =>
            refine ⟨rest.drop p.2, gs ++ [⟨p.1.toArray⟩], _, false, rfl, rfl, .inr (.inl ⟨rfl, rfl, by rw [HRT.out, HF.out, lists_snoc]⟩), by simp; omega, (fun h => by cases h), ?_, set_other (by omega) Hk04.out, set_row1 Hk94.out, (by have h5 := own_set (k := w2.heap.size) (i := 1) (u := Value.slice A1 (gs.length + 1) cap1) hown4 (by omega); simpa using h5), ?_⟩
            · have h1 := tail_more gs p.1; have h2 := esc_length p.1; omega
            · exact ((hbr.trans (hb3.mono hsz2)).grown hg4 (by omega) (fun k hk => by have := (hown3.lt k hk).1; omega)).setCell (p := ⟨w2.heap.size, 1, none⟩) (Nat.le_refl _) _
          case measure => simp [mu]
    · have HRT := Lib.hid HR
      clear HR hgl
      have hbd := Lib.parseIntB_bounds HP.out
      obtain ⟨A1, c1, rfl, hst, _⟩ := Gv.of_own hown
      have Er := E2.below E2.lo hbr
      have c90 := row0 Hk9.out
      have c91 := row1 Hk9.out
      by_cases hnm : name n (lists gs) = s.data.toList
      · have hq : (name n (lists gs) == s.toList) = true := by rw [hnm, str_list]; simp
        have HN := Lib.hid hnm
        clear hnm
        go_wp2_with (go_at_call 12; refine (name_any n (by omega) (by omega) A1 c1 gs _ Er hst (by omega) (by omega)).mono ?_; rintro e w5 ⟨rfl, hb5⟩; have Hk95 := Lib.hid (keep_heap hb5 hl9 Hk9.out); have Hk05 := Lib.hid (keep_heap hb5 (by omega) Hk0.out); have c95 := row0 Hk95.out; have c96 := row1 Hk95.out; have c05 := row0 Hk05.out; have c06 := row1 Hk05.out; have f05 := rowf (i := 0) Hk05.out; have f06 := rowf (i := 1) Hk05.out)
        have hown5 := own_below hown hb5
        refine bodyPost_ret (v := .tuple #[.agg #[.int .i64 n, .slice A1 gs.length c1], .nilIface]) (by simp [results, Tryz.results7, go_sem, c05, c06]) rfl ⟨.inl ⟨n, gs, _, ?_, rfl, (Gv.of_own (own_set (own_set hown5 (by omega)) (by omega))).low (by omega)⟩, ?_⟩
        · rw [HCP.out, HRT.out]
          simp [HN.out]
        · exact ((hb02.trans ((hbr.mono (by omega)).trans (hb5.mono (by omega)))).setCell (p := ⟨w.heap.size, 0, none⟩) (Nat.le_refl _) _).setCell (p := ⟨w.heap.size, 1, none⟩) (Nat.le_refl _) _
      · have hq : (name n (lists gs) == s.toList) = false := by rw [str_list, beq_eq_false_iff_ne]; exact hnm
        have HN := Lib.hid hnm
        clear hnm
        go_wp2_with (first | (go_at_call 12; refine (name_any n (by omega) (by omega) A1 c1 gs _ Er hst (by omega) (by omega)).mono ?_; rintro e w5 ⟨rfl, hb5⟩; have Hk95 := Lib.hid (keep_heap hb5 hl9 Hk9.out); have Hk05 := Lib.hid (keep_heap hb5 (by omega) Hk0.out); have c95 := row0 Hk95.out; have c96 := row1 Hk95.out; have c05 := row0 Hk05.out; have c06 := row1 Hk05.out; have f05 := rowf (i := 0) Hk05.out; have f06 := rowf (i := 1) Hk05.out) | (go_at_call 15; refine (faultNew_any _ _ rfl).mono ?_; rintro e w6 ⟨rfl, rfl⟩))
        refine bodyPost_ret (v := .tuple #[.agg #[.int .i64 0, .slice none 0 0], .iface 32 (.int .i64 31)]) (by simp [results, Tryz.results7, go_sem, c05, c06]) rfl ⟨.inr ⟨?_, rfl⟩, ?_⟩
        · rw [HCP.out, HRT.out]
          simp only [Option.bind_some]
          rw [if_neg HN.out]
        · exact ((hb02.trans ((hbr.mono (by omega)).trans (hb5.mono (by omega)))).setCell (p := ⟨w.heap.size, 0, none⟩) (Nat.le_refl _) _).setCell (p := ⟨w.heap.size, 1, none⟩) (Nat.le_refl _) _
    · have HRT := Lib.hid HR
      clear HR hgl
      have c05 := row0 Hk0.out
      have c06 := row1 Hk0.out
      have f05 := rowf (i := 0) Hk0.out
      have f06 := rowf (i := 1) Hk0.out
      cases more
      all_goals
        go_wp2_with (go_at_call 15; refine (faultNew_any _ _ rfl).mono ?_; rintro e w6 ⟨rfl, rfl⟩)
        refine bodyPost_ret (v := .tuple #[.agg #[.int .i64 0, .slice none 0 0], .iface 32 (.int .i64 31)]) (by simp [results, Tryz.results7, go_sem, c05, c06]) rfl ⟨.inr ⟨?_, rfl⟩, ?_⟩
        · rw [HCP.out, HRT.out]; rfl
        · exact ((hb02.trans (hbr.mono (by omega))).setCell (p := ⟨w.heap.size, 0, none⟩) (Nat.le_refl _) _).setCell (p := ⟨w.heap.size, 1, none⟩) (Nat.le_refl _) _

set_option maxHeartbeats 2000000 in
set_option maxRecDepth 100000 in
theorem parse_wrong (s : ByteArray) (w : World) (E : Env w) (hs : s.size ≤ 4194300) (h : ∀ n, Lib.parseIntB 64 (Lib.cut s.data.toList [44]).1 ≠ .ok n) :
    Calls Tryz.prog 7 #[.string s] w fun e w' => ParseEnd w.heap.size s.data.toList e w' ∧ Below w.heap.size w w' := by
  have HCP : Hid (cellParse s.data.toList = none) := by
    show _ = _
    unfold cellParse
    split
    · rename_i n hn; exact absurd hn (h n)
    · rfl
  have HP := Lib.hid h
  clear h
  have hl := cut_length s.data.toList [44]
  rw [show s.data.toList.length = s.size from by simp] at hl
  generalize hcut : Lib.cut s.data.toList [44] = C at HP hl
  have HC := Lib.hid hcut
  clear hcut
  obtain ⟨dig, rest0, more0⟩ := C
  have hl1 : dig.length ≤ s.size := hl.1
  clear hl
  go_enter Tryz.func7, Tryz.ntmps7
  have b0 : Below w.heap.size w (w.alloc (.cells #[.int .i64 0, .slice none 0 0] 27)) := (Below.refl _ w).alloc (Nat.le_refl _) _
  have hCut := cut_any s _ (E.below E.lo b0) hs
  rw [HC.out] at hCut
  have HCut := Lib.hid hCut
  clear hCut
  go_wp2_with (first
    | (go_at_call 21
       refine HCut.out.mono ?_
       rintro e w1 ⟨rfl, hb1⟩
       have E1 := E.below E.lo (b0.trans (hb1.mono (by simp))))
    | (go_at_call 22
       refine (parseInt_bad _ _ E1 (show dig.toArray.size ≤ 4194300 by simp; omega) HP.out).mono ?_
       rintro e w2 ⟨⟨n, et, ex, rfl⟩, hb2⟩))
  have hb02 : Below w.heap.size w w2 := (b0.trans (hb1.mono (by simp))).trans (hb2.mono (by have := hb1.size; simp at this; omega))
  have hs2 : w.heap.size < w2.heap.size := by have h1 := hb1.size; have h2 := hb2.size; simp at h1; omega
  have hk0 : w2.heap[w.heap.size]? = some (.cells #[.int .i64 0, .slice none 0 0] 27 (0, 0)) := by
    rw [hb2.block _ (by have h1 := hb1.size; simp at h1; omega), hb1.block _ (by simp)]
    exact heap_alloc_new w _
  clear HCut hb1 hb2
  go_loopw [5, 6, 8] (fun r m e wr => r = .string ⟨rest0.toArray⟩ ∧ m = .bool more0 ∧ e = .iface et ex ∧ Hid (wr.heap[w.heap.size]? = some (.cells #[.int .i64 0, .slice none 0 0] 27 (0, 0))) ∧ Below w2.heap.size w2 wr) (fun r m e _ => 0)
  case atStart => exact ⟨rfl, rfl, rfl, (Below.heap_alloc _ _ _ hs2).trans hk0, (Below.refl _ _).alloc (Nat.le_refl _) _⟩
  case round =>
    obtain ⟨rfl, rfl, rfl, Hk0, hbr⟩ := hrel
    have c05 := row0 Hk0.out
    have c06 := row1 Hk0.out
    have f05 := rowf (i := 0) Hk0.out
    have f06 := rowf (i := 1) Hk0.out
    cases more0
    all_goals
      go_wp2_with (go_at_call 15; refine (faultNew_any _ _ rfl).mono ?_; rintro e w6 ⟨rfl, rfl⟩)
      refine bodyPost_ret (v := .tuple #[.agg #[.int .i64 0, .slice none 0 0], .iface 32 (.int .i64 31)]) (by simp [results, Tryz.results7, go_sem, c05, c06]) rfl ⟨.inr ⟨HCP.out, rfl⟩, ?_⟩
      exact ((hb02.trans (hbr.mono (by omega))).setCell (p := ⟨w.heap.size, 0, none⟩) (Nat.le_refl _) _).setCell (p := ⟨w.heap.size, 1, none⟩) (Nat.le_refl _) _

/-- cell.Parse. -/
theorem parse_any (s : ByteArray) (w : World) (E : Env w) (hs : s.size ≤ 4194300) :
    Calls Tryz.prog 7 #[.string s] w fun e w' => ParseEnd w.heap.size s.data.toList e w' ∧ Below w.heap.size w w' := by
  by_cases h : ∃ n, Lib.parseIntB 64 (Lib.cut s.data.toList [44]).1 = .ok n
  · obtain ⟨n, hn⟩ := h
    exact parse_good s w E hs n hn
  · exact parse_wrong s w E hs fun n hn => h ⟨n, hn⟩

end Cb
end Go.Proofs.YtmfejegpnfbajaaGreatDoor
