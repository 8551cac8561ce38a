/-
  The plain law behind CellBack: a cell's name (the start in decimal, then each text of the group behind a comma, escaped) comes back when it is read. Lists of bytes and numbers alone; no program.
-/
import Derived.Lib.ItoaLen
import Derived.Lib.ParseIntBTie
import Derived.Lib.IndexMore
import Derived.Lib.IndexBytes
namespace Go.Proofs.YtmfejegpnfbajaaGreatDoor
namespace Cb
open Go.Lib

/-- Is a byte one of the four that are escaped? -/
def spec (c : UInt8) : Bool := c == 44 || c == 32 || c == 61 || c == 92

/-- key.Escape. -/
def esc : List UInt8 → List UInt8
  | [] => []
  | c :: l => if spec c then 92 :: c :: esc l else c :: esc l

theorem esc_append (a b : List UInt8) : esc (a ++ b) = esc a ++ esc b := by
  induction a with
  | nil => rfl
  | cons c a ih => simp only [List.cons_append, esc, ih]; split <;> simp

theorem esc_length (a : List UInt8) : (esc a).length ≤ 2 * a.length := by
  induction a with
  | nil => simp [esc]
  | cons c a ih => simp only [esc]; split <;> simp <;> omega

/-- key.Unescape: what it reads and how many bytes that took; none: an error. -/
def unesc : List UInt8 → Option (List UInt8 × Nat)
  | [] => some ([], 0)
  | [c] => if c = 92 then none else if spec c then some ([], 0) else some ([c], 1)
  | c :: d :: l =>
    if c = 92 then (if spec d then (unesc l).map fun p => (d :: p.1, p.2 + 2) else none)
    else if spec c then some ([], 0)
    else (unesc (d :: l)).map fun p => (c :: p.1, p.2 + 1)

theorem unesc_plain {c : UInt8} (l : List UInt8) (h : c ≠ 92) : unesc (c :: l) = if spec c then some ([], 0) else (unesc l).map fun p => (c :: p.1, p.2 + 1) := by
  cases l with
  | nil => simp [unesc, h]
  | cons d l => simp [unesc, h]

theorem unesc_pair (d : UInt8) (l : List UInt8) : unesc (92 :: d :: l) = if spec d then (unesc l).map fun p => (d :: p.1, p.2 + 2) else none := by
  simp [unesc]

theorem unesc_le : ∀ (n : Nat) (l : List UInt8), l.length ≤ n → ∀ p, unesc l = some p → p.2 ≤ l.length ∧ p.1.length ≤ p.2 := by
  intro n
  induction n with
  | zero =>
    intro l hl p h
    obtain rfl : l = [] := List.eq_nil_of_length_eq_zero (by omega)
    simp [unesc] at h; subst h; simp
  | succ n ih =>
    intro l hl p h
    cases l with
    | nil => simp [unesc] at h; subst h; simp
    | cons c l =>
      by_cases hc : c = 92
      · subst hc
        cases l with
        | nil => simp [unesc] at h
        | cons d l' =>
          rw [unesc_pair] at h
          split at h
          · obtain ⟨q, hq, rfl⟩ := Option.map_eq_some_iff.1 h
            have := ih l' (by simp at hl; omega) q hq
            simp; omega
          · simp at h
      · rw [unesc_plain l hc] at h
        split at h
        · simp at h; subst h; simp
        · obtain ⟨q, hq, rfl⟩ := Option.map_eq_some_iff.1 h
          have := ih l (by simp at hl; omega) q hq
          simp; omega

/-- What stands behind: nothing, or a byte that ends a text. -/
def Ends (r : List UInt8) : Prop := r = [] ∨ ∃ c r', r = c :: r' ∧ spec c = true ∧ c ≠ 92

theorem unesc_esc (l r : List UInt8) (hr : Ends r) : unesc (esc l ++ r) = some (l, (esc l).length) := by
  induction l with
  | nil =>
    rcases hr with rfl | ⟨c, r', rfl, h1, h2⟩
    · simp [esc, unesc]
    · show unesc (c :: r') = _
      rw [unesc_plain r' h2, if_pos h1]; rfl
  | cons c l ih =>
    by_cases hs : spec c = true
    · simp only [esc, hs, if_true, List.cons_append]
      rw [unesc_pair, if_pos hs, ih]
      simp
    · have hc : c ≠ 92 := by intro h; subst h; exact hs (by decide)
      simp only [esc, if_neg hs, List.cons_append]
      rw [unesc_plain _ hc, if_neg hs, ih]
      simp

/-- The texts of a group, as they stand behind the start. -/
def tail : List (List UInt8) → List UInt8
  | [] => []
  | g :: gs => 44 :: (esc g ++ tail gs)

theorem tail_snoc (gs : List (List UInt8)) (g : List UInt8) : tail (gs ++ [g]) = tail gs ++ 44 :: esc g := by
  induction gs with
  | nil => simp [tail]
  | cons x gs ih => simp [tail, ih]

theorem tail_ends (gs : List (List UInt8)) : Ends (tail gs) := by
  cases gs with
  | nil => exact .inl rfl
  | cons g gs => exact .inr ⟨44, _, rfl, by decide, by decide⟩

/-- cell.Name. -/
def name (n : Int) (gs : List (List UInt8)) : List UInt8 := itoa n ++ tail gs

/-! ### The number ahead of the first comma -/
theorem dec_byte (k : Nat) (h : k < 10) : (UInt8.ofNat (48 + k)).toNat = 48 + k := by
  simp; omega

theorem parseUintM_dec (M : Nat) (hM : M ≤ 18446744073709551615) : ∀ (n u : Nat), u ≤ n → u ≤ M → ∀ r, parseUintM M 0 (decDigits u ++ r) = parseUintM M u r := by
  intro n
  induction n with
  | zero =>
    intro u h1 _ r
    obtain rfl : u = 0 := by omega
    rw [decDigits_one (by omega)]
    simp only [List.cons_append, List.nil_append, parseUintM]
    rw [dec_byte 0 (by omega)]
    simp
  | succ n ih =>
    intro u h1 h2 r
    by_cases h : u < 10
    · rw [decDigits_one h]
      simp only [List.cons_append, List.nil_append, parseUintM]
      rw [dec_byte u h]
      rw [if_pos (by omega), if_neg (by omega), if_neg (by omega)]
      congr 1; omega
    · rw [decDigits, dif_neg h, List.append_assoc, ih (u / 10) (by omega) (by omega)]
      simp only [List.cons_append, List.nil_append, parseUintM]
      rw [dec_byte (u % 10) (by omega)]
      rw [if_pos (by omega), if_neg (by omega), if_neg (by omega)]
      congr 1; omega

theorem dec_ne (u : Nat) : decDigits u ≠ [] := by
  rw [decDigits]; split <;> simp

theorem parseUintB_dec (u : Nat) (h : u ≤ 18446744073709551615) : parseUintB 64 (decDigits u) = .ok u := by
  unfold parseUintB
  rw [if_neg (dec_ne u)]
  have := parseUintM_dec (2 ^ 64 - 1) (by decide) u u (Nat.le_refl _) (by simpa using h) []
  simpa [parseUintM] using this

theorem dec_digit (u : Nat) : ∀ c ∈ decDigits u, 48 ≤ c.toNat ∧ c.toNat ≤ 57 := by
  induction u using Nat.strongRecOn with
  | ind u ih =>
    intro c hc
    rw [decDigits] at hc
    split at hc
    · rename_i h
      simp only [List.mem_singleton] at hc
      subst hc
      rw [dec_byte u h]; omega
    · rename_i h
      rcases List.mem_append.1 hc with hc | hc
      · exact ih (u / 10) (by omega) c hc
      · simp only [List.mem_singleton] at hc
        subst hc
        rw [dec_byte (u % 10) (by omega)]; omega

theorem parse_itoa (n : Int) (h0 : -9223372036854775808 ≤ n) (h1 : n ≤ 9223372036854775807) : parseIntB 64 (itoa n) = .ok n := by
  by_cases hn : n < 0
  · obtain ⟨u, rfl⟩ : ∃ u : Nat, n = -(u : Int) := ⟨n.natAbs, by omega⟩
    rw [itoa_neg u (by omega)]
    simp only [parseIntB]
    rw [if_pos (by decide), parseUintB_dec u (by omega)]
    simp only
    rw [if_neg (by simp), if_neg (by simp; omega)]
    simp
  · obtain ⟨u, rfl⟩ : ∃ u : Nat, n = u := ⟨n.toNat, by omega⟩
    rw [itoa_nonneg]
    cases hd : decDigits u with
    | nil => exact absurd hd (dec_ne u)
    | cons c r =>
      have hc := dec_digit u c (by rw [hd]; simp)
      simp only [parseIntB]
      rw [if_neg (by omega), ← hd, parseUintB_dec u (by omega)]
      simp only
      rw [if_neg (by simp; omega), if_neg (by simp; omega), if_neg (by omega)]

theorem itoa_comma (n : Int) : (44 : UInt8) ∉ itoa n := by
  unfold itoa
  split
  · intro h
    rcases List.mem_cons.1 h with h | h
    · exact absurd h (by decide)
    · have := dec_digit _ _ h; simp at this
  · intro h
    have := dec_digit _ _ h; simp at this

/-! ### strings.Cut at the first comma -/
theorem index_comma (d r : List UInt8) (h : (44 : UInt8) ∉ d) : index (d ++ 44 :: r) [44] = d.length := by
  refine index_first (by simp) (by simp [occAt]) (fun j hj => ?_)
  simp only [occAt]
  rw [List.drop_append_of_le_length (by omega)]
  cases hd : d.drop j with
  | nil => have := congrArg List.length hd; simp at this; omega
  | cons c t =>
    have hc : c ∈ d := List.mem_of_mem_drop (by rw [hd]; simp)
    have hne : (44 == c) = false := by rw [beq_eq_false_iff_ne]; rintro rfl; exact h hc
    show ([44] : List UInt8).isPrefixOf (c :: (t ++ 44 :: r)) = false
    simp only [List.isPrefixOf, hne, Bool.false_and]

theorem index_no_comma (d : List UInt8) (h : (44 : UInt8) ∉ d) : index d [44] = -1 := by
  refine index_none (fun j _ => ?_)
  simp only [occAt]
  cases hd : d.drop j with
  | nil => rfl
  | cons c t =>
    have hc : c ∈ d := List.mem_of_mem_drop (by rw [hd]; simp)
    have hne : (44 == c) = false := by rw [beq_eq_false_iff_ne]; rintro rfl; exact h hc
    simp only [List.isPrefixOf, hne, Bool.false_and]

theorem cut_comma (d r : List UInt8) (h : (44 : UInt8) ∉ d) : cut (d ++ 44 :: r) [44] = (d, r, true) := by
  unfold cut
  rw [index_comma d r h]
  rw [if_pos (by omega)]
  simp

theorem cut_no_comma (d : List UInt8) (h : (44 : UInt8) ∉ d) : cut d [44] = (d, [], false) := by
  unfold cut
  rw [index_no_comma d h]
  simp

theorem cut_name_nil (n : Int) : cut (name n []) [44] = (itoa n, [], false) := by
  unfold name tail
  rw [List.append_nil]
  exact cut_no_comma _ (itoa_comma n)

theorem cut_name_cons (n : Int) (g : List UInt8) (gs : List (List UInt8)) : cut (name n (g :: gs)) [44] = (itoa n, esc g ++ tail gs, true) := by
  show cut (itoa n ++ 44 :: (esc g ++ tail gs)) [44] = _
  exact cut_comma _ _ (itoa_comma n)

theorem cut_length (l sep : List UInt8) : (cut l sep).1.length ≤ l.length ∧ (cut l sep).2.1.length ≤ l.length := by
  unfold cut
  split <;> simp
  omega

/-! ### cell.Parse -/
/-- The texts of a group, read one behind the other; none: an error. -/
def pg : Nat → List UInt8 → Option (List (List UInt8))
  | 0, _ => none
  | f + 1, l =>
    match unesc l with
    | none => none
    | some p =>
      match l.drop p.2 with
      | [] => some [p.1]
      | c :: r => if c = 44 then (pg f r).map (p.1 :: ·) else some [p.1]

theorem pg_tail (gs : List (List UInt8)) : ∀ (g : List UInt8) (f : Nat), gs.length < f → pg f (esc g ++ tail gs) = some (g :: gs) := by
  induction gs with
  | nil =>
    intro g f hf
    obtain ⟨f, rfl⟩ : ∃ m, f = m + 1 := ⟨f - 1, by omega⟩
    simp only [pg, unesc_esc g (tail []) (tail_ends [])]
    simp [tail]
  | cons x gs ih =>
    intro g f hf
    obtain ⟨f, rfl⟩ : ∃ m, f = m + 1 := ⟨f - 1, by omega⟩
    simp only [pg, unesc_esc g (tail (x :: gs)) (tail_ends _)]
    simp only [List.drop_left, tail]
    simp [ih x f (by simp at hf; omega)]

/-- What stands behind the number; 'more': is there a comma behind it? -/
def groupsOf (more : Bool) (l : List UInt8) : Option (List (List UInt8)) := if more then pg (l.length + 1) l else some []

/-- cell.Parse. -/
def cellParse (l : List UInt8) : Option (Int × List (List UInt8)) :=
  match parseIntB 64 (cut l [44]).1 with
  | .ok n => (groupsOf (cut l [44]).2.2 (cut l [44]).2.1).bind fun gs => if name n gs = l then some (n, gs) else none
  | _ => none

theorem tail_length (gs : List (List UInt8)) : gs.length ≤ (tail gs).length := by
  induction gs with
  | nil => simp
  | cons g gs ih => simp [tail]; omega

theorem cellParse_name (n : Int) (gs : List (List UInt8)) (h0 : -9223372036854775808 ≤ n) (h1 : n ≤ 9223372036854775807) : cellParse (name n gs) = some (n, gs) := by
  unfold cellParse
  cases gs with
  | nil =>
    rw [cut_name_nil]
    simp only [parse_itoa n h0 h1, groupsOf]
    simp
  | cons g gs =>
    rw [cut_name_cons]
    simp only [parse_itoa n h0 h1, groupsOf, if_true]
    rw [pg_tail gs g _ (by have := tail_length gs; simp; omega)]
    simp

theorem cellParse_some {l : List UInt8} {n : Int} {gs : List (List UInt8)} (h : cellParse l = some (n, gs)) : name n gs = l := by
  unfold cellParse at h
  split at h
  · obtain ⟨a, _, ha⟩ := Option.bind_eq_some_iff.1 h
    split at ha
    · rename_i hn
      simp only [Option.some.injEq, Prod.mk.injEq] at ha
      obtain ⟨rfl, rfl⟩ := ha
      exact hn
    · cases ha
  · cases h

end Cb
end Go.Proofs.YtmfejegpnfbajaaGreatDoor
