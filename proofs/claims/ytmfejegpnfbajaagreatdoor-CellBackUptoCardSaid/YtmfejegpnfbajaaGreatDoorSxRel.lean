/-
  The abstract machine: what its values and heaps stand for in a world.
-/
import Derived.Test.YtmfejegpnfbajaaGreatDoorSxEv
import Derived.Laws.Sem
import Derived.Laws.Cells
import Derived.Laws.CopyRow
import Derived.Laws.World
namespace Go.Proofs.YtmfejegpnfbajaaGreatDoor
namespace Sx

/-- Of each abstract block the real one and how many cells it has; none: it has not been made yet. -/
abbrev Map := List (Option (Nat × Nat))
def At (ι : Map) (i b sz : Nat) : Prop := ι[i]? = some (some (b, sz))
def Le (ι ι' : Map) : Prop := ∀ i b sz, At ι i b sz → At ι' i b sz

theorem Le.refl (ι : Map) : Le ι ι := fun _ _ _ h => h
theorem Le.trans {a b c : Map} (h : Le a b) (k : Le b c) : Le a c := fun _ _ _ x => k _ _ _ (h _ _ _ x)
theorem At.inj {ι : Map} {i b s b' s' : Nat} (h : At ι i b s) (k : At ι i b' s') : b = b' ∧ s = s' := by
  unfold At at h k
  rw [h] at k
  injection k with k; injection k with k; injection k with k1 k2
  exact ⟨k1, k2⟩
theorem Le.snoc (ι : Map) (x : Option (Nat × Nat)) : Le ι (ι ++ [x]) := fun i b sz h => by
  unfold At at *
  rw [List.getElem?_append_left (List.getElem?_eq_some_iff.1 h).1]; exact h
theorem Le.append (ι κ : Map) : Le ι (ι ++ κ) := fun i b sz h => by
  unfold At at *
  rw [List.getElem?_append_left (List.getElem?_eq_some_iff.1 h).1]; exact h

/-- What an abstract value stands for. -/
inductive VR (ι : Map) : Value → Value → Prop
  | bool (b : Bool) : VR ι (.bool b) (.bool b)
  | int (k : IntKind) (n : Int) : VR ι (.int k n) (.int k n)
  | float (k : FloatKind) (n : Nat) : VR ι (.float k n) (.float k n)
  | complex (k : FloatKind) (m n : Nat) : VR ι (.complex k m n) (.complex k m n)
  | string (s : ByteArray) : VR ι (.string s) (.string s)
  | pnil : VR ι (.pointer none) (.pointer none)
  | ptr {i b sz : Nat} (off : Nat) (h : At ι i b sz) : VR ι (.pointer (some ⟨i, off, none⟩)) (.pointer (some ⟨b, off, none⟩))
  | snil (l c : Nat) : VR ι (.slice none l c) (.slice none l c)
  | slice {i b sz : Nat} (off l c : Nat) (h : At ι i b sz) (hc : c < unk) : VR ι (.slice (some ⟨i, off, none⟩) l c) (.slice (some ⟨b, off, none⟩) l c)
  | wide {i b sz : Nat} (off l es c' : Nat) (h : At ι i b sz) (hl : l ≤ c') (hs : off + c' * es = sz) : VR ι (.slice (some ⟨i, off, none⟩) l (unk + es)) (.slice (some ⟨b, off, none⟩) l c')
  | mnil : VR ι (.map none) (.map none)
  | map {i b sz : Nat} (h : At ι i b sz) : VR ι (.map (some i)) (.map (some b))
  | cnil : VR ι (.chan none) (.chan none)
  | func {fn : Fn} {as bs cs ds : Array Value} (hf : fnOk fn = true) (h1 : as.toList.length = bs.toList.length) (h2 : ∀ (i : Nat) (a b : Value), as.toList[i]? = some a → bs.toList[i]? = some b → VR ι a b)
      (h3 : cs.toList.length = ds.toList.length) (h4 : ∀ (i : Nat) (a b : Value), cs.toList[i]? = some a → ds.toList[i]? = some b → VR ι a b) : VR ι (.func fn as cs) (.func fn bs ds)
  | nilFunc : VR ι .nilFunc .nilFunc
  | iface (t : TypeId) {v v' : Value} (h : VR ι v v') : VR ι (.iface t v) (.iface t v')
  | nilIface : VR ι .nilIface .nilIface
  | agg {as bs : Array Value} (h1 : as.toList.length = bs.toList.length) (h2 : ∀ (i : Nat) (a b : Value), as.toList[i]? = some a → bs.toList[i]? = some b → VR ι a b) : VR ι (.agg as) (.agg bs)
  | tuple {as bs : Array Value} (h1 : as.toList.length = bs.toList.length) (h2 : ∀ (i : Nat) (a b : Value), as.toList[i]? = some a → bs.toList[i]? = some b → VR ι a b) : VR ι (.tuple as) (.tuple bs)

def VRL (ι : Map) (as bs : List Value) : Prop := as.length = bs.length ∧ ∀ (i : Nat) (a b : Value), as[i]? = some a → bs[i]? = some b → VR ι a b

theorem VR.mono {ι ι' : Map} (h : Le ι ι') {v v' : Value} (r : VR ι v v') : VR ι' v v' := by
  induction r with
  | bool b => exact .bool b
  | int k n => exact .int k n
  | float k n => exact .float k n
  | complex k m n => exact .complex k m n
  | string s => exact .string s
  | pnil => exact .pnil
  | ptr off x => exact .ptr off (h _ _ _ x)
  | snil l c => exact .snil l c
  | slice off l c x hc => exact .slice off l c (h _ _ _ x) hc
  | wide off l es c' x hl hs => exact .wide off l es c' (h _ _ _ x) hl hs
  | mnil => exact .mnil
  | map x => exact .map (h _ _ _ x)
  | cnil => exact .cnil
  | func hf h1 _ h3 _ ih1 ih2 => exact .func hf h1 ih1 h3 ih2
  | nilFunc => exact .nilFunc
  | iface t _ ih => exact .iface t ih
  | nilIface => exact .nilIface
  | agg h1 _ ih => exact .agg h1 ih
  | tuple h1 _ ih => exact .tuple h1 ih

theorem VRL.mono {ι ι' : Map} (h : Le ι ι') {l l' : List Value} (r : VRL ι l l') : VRL ι' l l' := ⟨r.1, fun i a b x y => (r.2 i a b x y).mono h⟩

theorem VRL.nil (ι : Map) : VRL ι [] [] := ⟨rfl, fun i a b h => by simp at h⟩
theorem VRL.cons {ι : Map} {a b : Value} {l m : List Value} (h : VR ι a b) (r : VRL ι l m) : VRL ι (a :: l) (b :: m) :=
  ⟨by simp [r.1], fun i x y hx hy => by
    cases i with
    | zero => simp at hx hy; subst hx; subst hy; exact h
    | succ i => simp at hx hy; exact r.2 i x y hx hy⟩
theorem VRL.head {ι : Map} {a b : Value} {l m : List Value} (r : VRL ι (a :: l) (b :: m)) : VR ι a b := r.2 0 a b rfl rfl
theorem VRL.tail {ι : Map} {a b : Value} {l m : List Value} (r : VRL ι (a :: l) (b :: m)) : VRL ι l m :=
  ⟨by simpa using r.1, fun i x y hx hy => r.2 (i + 1) x y (by simpa using hx) (by simpa using hy)⟩
theorem VRL.cases_cons {ι : Map} {a : Value} {l m : List Value} (r : VRL ι (a :: l) m) : ∃ b k, m = b :: k ∧ VR ι a b ∧ VRL ι l k := by
  cases m with
  | nil => exact absurd r.1 (by simp)
  | cons b k => exact ⟨b, k, rfl, r.head, r.tail⟩
theorem VRL.cases_nil {ι : Map} {m : List Value} (r : VRL ι [] m) : m = [] := by
  cases m with
  | nil => rfl
  | cons b k => exact absurd r.1 (by simp)
theorem VRL.append {ι : Map} {l l' m m' : List Value} (h : VRL ι l l') (k : VRL ι m m') : VRL ι (l ++ m) (l' ++ m') := by
  induction l generalizing l' with
  | nil => rw [h.cases_nil]; exact k
  | cons a l ih => obtain ⟨b, t, rfl, h1, h2⟩ := h.cases_cons; exact .cons h1 (ih h2)
theorem VRL.take {ι : Map} {l l' : List Value} (h : VRL ι l l') (n : Nat) : VRL ι (l.take n) (l'.take n) :=
  ⟨by simp [h.1], fun i a b hx hy => by
    rw [List.getElem?_take] at hx hy
    split at hx
    · rename_i hlt; rw [if_pos hlt] at hy; exact h.2 i a b hx hy
    · exact absurd hx (by simp)⟩
theorem VRL.drop {ι : Map} {l l' : List Value} (h : VRL ι l l') (n : Nat) : VRL ι (l.drop n) (l'.drop n) :=
  ⟨by simp [h.1], fun i a b hx hy => by rw [List.getElem?_drop] at hx hy; exact h.2 _ a b hx hy⟩
theorem VRL.set {ι : Map} {l l' : List Value} (h : VRL ι l l') (n : Nat) {v v' : Value} (hv : VR ι v v') : VRL ι (l.set n v) (l'.set n v') :=
  ⟨by simp [h.1], fun i a b hx hy => by
    rw [List.getElem?_set] at hx hy
    split at hx
    · rename_i hn
      rw [if_pos hn] at hy
      split at hx
      · split at hy
        · simp at hx hy; subst hx; subst hy; exact hv
        · simp at hy
      · simp at hx
    · rename_i hn
      rw [if_neg hn] at hy
      exact h.2 i a b hx hy⟩
theorem VRL.get {ι : Map} {l l' : List Value} (h : VRL ι l l') {i : Nat} {a : Value} (ha : l[i]? = some a) : ∃ b, l'[i]? = some b ∧ VR ι a b := by
  have hl : i < l'.length := h.1 ▸ (List.getElem?_eq_some_iff.1 ha).1
  exact ⟨l'[i], List.getElem?_eq_getElem hl, h.2 i a _ ha (List.getElem?_eq_getElem hl)⟩
theorem VRL.get_none {ι : Map} {l l' : List Value} (h : VRL ι l l') {i : Nat} (ha : l[i]? = none) : l'[i]? = none := by
  rw [List.getElem?_eq_none_iff] at *
  rw [← h.1]; exact ha
theorem VRL.replicate {ι : Map} (n : Nat) {v v' : Value} (h : VR ι v v') : VRL ι (List.replicate n v) (List.replicate n v') :=
  ⟨by simp, fun i a b hx hy => by
    rw [List.getElem?_replicate] at hx hy
    split at hx
    · rename_i hlt; rw [if_pos hlt] at hy; simp at hx hy; subst hx; subst hy; exact h
    · simp at hx⟩
theorem VRL.of_map {ι : Map} {α : Type} (l : List α) (f g : α → Value) (h : ∀ x ∈ l, VR ι (f x) (g x)) : VRL ι (l.map f) (l.map g) := by
  induction l with
  | nil => exact .nil ι
  | cons a l ih => exact .cons (h a (by simp)) (ih fun x hx => h x (by simp [hx]))

theorem VRL.agg {ι : Map} {as bs : Array Value} (h : VRL ι as.toList bs.toList) : VR ι (.agg as) (.agg bs) := .agg h.1 h.2
theorem VRL.tuple {ι : Map} {as bs : Array Value} (h : VRL ι as.toList bs.toList) : VR ι (.tuple as) (.tuple bs) := .tuple h.1 h.2
theorem VRL.agg' {ι : Map} {as bs : List Value} (h : VRL ι as bs) : VR ι (.agg as.toArray) (.agg bs.toArray) := .agg (by simpa using h.1) (by simpa using h.2)
theorem VRL.tuple' {ι : Map} {as bs : List Value} (h : VRL ι as bs) : VR ι (.tuple as.toArray) (.tuple bs.toArray) := .tuple (by simpa using h.1) (by simpa using h.2)

theorem undef_rel (ι : Map) : VR ι undef undef := (VRL.nil ι).tuple

/-! ### What has no address in it -/

theorem VRL.eq_of {ι : Map} {l l' : List Value} (h : VRL ι l l') (f : Value → Bool) (hf : l.all f = true) (he : ∀ v v', f v = true → VR ι v v' → v = v') : l = l' := by
  induction l generalizing l' with
  | nil => exact h.cases_nil.symm
  | cons a l ih =>
    obtain ⟨b, t, rfl, h1, h2⟩ := h.cases_cons
    simp at hf
    rw [he a b hf.1 h1, ih h2 (by simpa using hf.2)]

theorem flat_eq {ι : Map} : ∀ (n : Nat) (v v' : Value), flat n v = true → VR ι v v' → v = v' := by
  intro n
  induction n with
  | zero => intro v v' hf r; cases r <;> first | rfl | (simp [flat] at hf)
  | succ n ih =>
    intro v v' hf r
    cases r with
    | bool | int | float | complex | string | pnil | snil | mnil | cnil | nilFunc | nilIface => rfl
    | ptr | slice | wide | map => simp [flat] at hf
    | func hfn h1 h2 h3 h4 =>
      simp only [flat, Bool.and_eq_true] at hf
      have e1 := VRL.eq_of (ι := ι) ⟨h1, h2⟩ (flat n) hf.1.2 (fun v v' => ih v v')
      have e2 := VRL.eq_of (ι := ι) ⟨h3, h4⟩ (flat n) hf.2 (fun v v' => ih v v')
      rw [Array.toList_inj] at e1 e2
      rw [e1, e2]
    | iface t h => simp only [flat] at hf; rw [ih _ _ hf h]
    | agg h1 h2 =>
      simp only [flat] at hf
      have e1 := VRL.eq_of (ι := ι) ⟨h1, h2⟩ (flat n) hf (fun v v' => ih v v')
      rw [Array.toList_inj] at e1
      rw [e1]
    | tuple h1 h2 =>
      simp only [flat] at hf
      have e1 := VRL.eq_of (ι := ι) ⟨h1, h2⟩ (flat n) hf (fun v v' => ih v v')
      rw [Array.toList_inj] at e1
      rw [e1]

theorem flat_refl (ι : Map) : ∀ (n : Nat) (v : Value), flat n v = true → VR ι v v := by
  have key : ∀ (f : Value → Bool) (l : List Value), l.all f = true → (∀ v, f v = true → VR ι v v) → VRL ι l l := by
    intro f l hl hf
    induction l with
    | nil => exact .nil ι
    | cons a l ih => simp at hl; exact .cons (hf a hl.1) (ih (by simpa using hl.2))
  intro n
  induction n with
  | zero =>
    intro v hf
    cases v with
    | bool b => exact .bool b
    | int k n => exact .int k n
    | float k n => exact .float k n
    | complex k m n => exact .complex k m n
    | string s => exact .string s
    | pointer a => cases a with
      | none => exact .pnil
      | some a => simp [flat] at hf
    | slice a l c => cases a with
      | none => exact .snil l c
      | some a => simp [flat] at hf
    | map r => cases r with
      | none => exact .mnil
      | some a => simp [flat] at hf
    | chan r => cases r with
      | none => exact .cnil
      | some a => simp [flat] at hf
    | nilFunc => exact .nilFunc
    | nilIface => exact .nilIface
    | func | iface | agg | tuple => simp [flat] at hf
  | succ n ih =>
    intro v hf
    cases v with
    | bool b => exact .bool b
    | int k n => exact .int k n
    | float k n => exact .float k n
    | complex k m n => exact .complex k m n
    | string s => exact .string s
    | pointer a => cases a with
      | none => exact .pnil
      | some a => simp [flat] at hf
    | slice a l c => cases a with
      | none => exact .snil l c
      | some a => simp [flat] at hf
    | map r => cases r with
      | none => exact .mnil
      | some a => simp [flat] at hf
    | chan r => cases r with
      | none => exact .cnil
      | some a => simp [flat] at hf
    | nilFunc => exact .nilFunc
    | nilIface => exact .nilIface
    | func fn as cs =>
      simp only [flat, Bool.and_eq_true] at hf
      have h1 := key (flat n) _ hf.1.2 ih
      have h2 := key (flat n) _ hf.2 ih
      exact .func hf.1.1 h1.1 h1.2 h2.1 h2.2
    | iface t v => exact .iface t (ih v (by simpa only [flat] using hf))
    | agg as => exact (key (flat n) _ (by simpa only [flat] using hf) ih).agg
    | tuple as => exact (key (flat n) _ (by simpa only [flat] using hf) ih).tuple

theorem isFlat_eq {ι : Map} {v v' : Value} (h : isFlat v = true) (r : VR ι v v') : v = v' := flat_eq 8 v v' h r
theorem isFlat_refl (ι : Map) {v : Value} (h : isFlat v = true) : VR ι v v := flat_refl ι 8 v h

theorem pureRun_run {α : Type} (P : Program) (w : World) : ∀ (s : Sem α) (a : α), pureRun P s = some a → s.run P w = .ok a w := by
  intro s
  induction s with
  | pure a => intro b h; simp [pureRun] at h; simp [Sem.run, h]
  | program k ih => intro b h; simp only [pureRun] at h; simp only [Sem.run]; exact ih P b h
  | mark m k ih => intro b h; simp only [pureRun] at h; simp only [Sem.run]; exact ih b h
  | choose q k ih =>
    intro b h
    simp only [pureRun] at h
    split at h
    · rename_i hq; simp only [Sem.run, hq, if_true]; exact ih 0 b h
    · simp at h
  | load | store | new | shape | freeze | frozen | getObj | setObj | sys | halt => intro b h; simp [pureRun] at h

/-! ### Heaps -/

/-- Entries of maps. -/
def ER (ι : Map) (e e' : MapEntry) : Prop := e.key = e'.key ∧ isFlat e.key = true ∧ e.born = e'.born ∧ VR ι e.val e'.val
def ERL (ι : Map) (l l' : List MapEntry) : Prop := l.length = l'.length ∧ ∀ (i : Nat) (a b : MapEntry), l[i]? = some a → l'[i]? = some b → ER ι a b

inductive OR (ι : Map) : Obj → Obj → Prop
  | map {es es' : Array MapEntry} (clock : Nat) (h : ERL ι es.toList es'.toList) : OR ι (.map es clock) (.map es' clock)
  | str (s : ByteArray) (pos : Nat) : OR ι (.stringIter s pos) (.stringIter s pos)
  | iterNil (since : Nat) (seen : Array Nat) (last : Nat) : OR ι (.mapIter none since seen last) (.mapIter none since seen last)
  | iter {m b sz : Nat} (since : Nat) (seen : Array Nat) (last : Nat) (h : At ι m b sz) : OR ι (.mapIter (some m) since seen last) (.mapIter (some b) since seen last)

theorem ERL.mono {ι ι' : Map} (h : Le ι ι') {l l' : List MapEntry} (r : ERL ι l l') : ERL ι' l l' :=
  ⟨r.1, fun i a b x y => let ⟨h1, h2, h3, h4⟩ := r.2 i a b x y; ⟨h1, h2, h3, h4.mono h⟩⟩
theorem OR.mono {ι ι' : Map} (h : Le ι ι') {o o' : Obj} (r : OR ι o o') : OR ι' o o' := by
  cases r with
  | map clock x => exact .map clock (x.mono h)
  | str s pos => exact .str s pos
  | iterNil a b c => exact .iterNil a b c
  | iter a b c x => exact .iter a b c (h _ _ _ x)

/-- What an abstract block stands for. -/
def BR (ι : Map) (w : World) (b sz : Nat) : Blk → Prop
  | .cells c e wd => ∃ (c' : Array Value) (fz : Nat × Nat), w.heap[b]? = some (.cells c' e fz) ∧ c'.size = sz ∧ c.length ≤ sz ∧ (wd = false → c.length = sz) ∧ (∀ off, off < sz → ¬ (fz.1 ≤ off ∧ off < fz.2)) ∧ VRL ι c (c'.toList.take c.length)
  | .tab c => b < w.heap.size ∧ ∀ (j : Nat) (v : Value), c[j]? = some v → ∃ v', w.cell? ⟨b, j, none⟩ = some v' ∧ VR ι v v'
  | .obj o => ∃ o', w.heap[b]? = some o' ∧ OR ι o o'
  | .dead => True

theorem BR.mono {ι ι' : Map} (h : Le ι ι') {w w' : World} {b sz : Nat} {B : Blk} (hw : w'.heap[b]? = w.heap[b]?) (r : BR ι w b sz B) : BR ι' w' b sz B := by
  cases B with
  | cells c e wd => obtain ⟨c', fz, h1, h2, h3, h4, h5, h6⟩ := r; exact ⟨c', fz, hw.trans h1, h2, h3, h4, h5, h6.mono h⟩
  | tab c =>
    refine ⟨?_, fun j v hj => ?_⟩
    · have h1 := r.1
      rw [Array.getElem?_eq_getElem h1] at hw
      exact (Array.getElem?_eq_some_iff.1 hw).1
    · obtain ⟨v', h1, h2⟩ := r.2 j v hj
      refine ⟨v', ?_, h2.mono h⟩
      rw [← h1]
      simp only [World.cell?, hw]
  | obj o => obtain ⟨o', h1, h2⟩ := r; exact ⟨o', hw.trans h1, h2.mono h⟩
  | dead => trivial

def isDead : Blk → Bool
  | .dead => true
  | _ => false

theorem BR.lt {ι : Map} {w : World} {b sz : Nat} {B : Blk} (r : BR ι w b sz B) (hd : isDead B = false) : b < w.heap.size := by
  cases B with
  | cells c e wd => obtain ⟨c', fz, h1, _⟩ := r; exact (Array.getElem?_eq_some_iff.1 h1).1
  | tab c => exact r.1
  | obj o => obtain ⟨o', h1, _⟩ := r; exact (Array.getElem?_eq_some_iff.1 h1).1
  | dead => simp [isDead] at hd

structure Rel (ι : Map) (h : List Blk) (w : World) : Prop where
  len : ι.length = h.length
  blk : ∀ i B b sz, h[i]? = some B → At ι i b sz → BR ι w b sz B
  inj : ∀ i j Bi Bj b s t, h[i]? = some Bi → h[j]? = some Bj → isDead Bi = false → isDead Bj = false → At ι i b s → At ι j b t → i = j

/-- How the world and the map go on. -/
structure Step (ro : Nat) (ι : Map) (w : World) (ι' : Map) (w' : World) : Prop where
  le : Le ι ι'
  len : ι.length ≤ ι'.length
  pre : ∀ i, i < ι.length → ι'[i]? = ι[i]?
  new : ∀ i b sz, At ι' i b sz → At ι i b sz ∨ (ro ≤ i ∧ (w.heap.size ≤ b ∨ ∃ j t, ro ≤ j ∧ At ι j b t))
  os : w'.os = w.os
  tape : w'.tape = w.tape
  output : w'.output = w.output
  size : w.heap.size ≤ w'.heap.size
  old : ∀ b, b < w.heap.size → (∀ i sz, ro ≤ i → ¬ At ι i b sz) → w'.heap[b]? = w.heap[b]?

theorem Step.refl (ro : Nat) (ι : Map) (w : World) : Step ro ι w ι w :=
  ⟨Le.refl ι, Nat.le_refl _, fun _ _ => rfl, fun _ _ _ h => .inl h, rfl, rfl, rfl, Nat.le_refl _, fun _ _ _ => rfl⟩

theorem Step.trans {ro : Nat} {ι ι' ι'' : Map} {w w' w'' : World} (a : Step ro ι w ι' w') (b : Step ro ι' w' ι'' w'') : Step ro ι w ι'' w'' where
  le := a.le.trans b.le
  len := Nat.le_trans a.len b.len
  pre := fun i hi => (b.pre i (Nat.lt_of_lt_of_le hi a.len)).trans (a.pre i hi)
  new := fun i c sz h => by
    rcases b.new i c sz h with h | ⟨hi, h | ⟨j, t, hj, h⟩⟩
    · exact a.new i c sz h
    · exact .inr ⟨hi, .inl (Nat.le_trans a.size h)⟩
    · rcases a.new j c t h with h | ⟨_, h⟩
      · exact .inr ⟨hi, .inr ⟨j, t, hj, h⟩⟩
      · exact .inr ⟨hi, h⟩
  os := b.os.trans a.os
  tape := b.tape.trans a.tape
  output := b.output.trans a.output
  size := Nat.le_trans a.size b.size
  old := fun c hc hn => by
    rw [b.old c (Nat.lt_of_lt_of_le hc a.size) fun i sz hi h => by
      rcases a.new i c sz h with h | ⟨_, h | ⟨j, t, hj, h⟩⟩
      · exact hn i sz hi h
      · omega
      · exact hn j t hj h]
    exact a.old c hc hn

theorem Step.drew {ro : Nat} {ι ι' : Map} {w w' : World} (a : Step ro ι w ι' w') : Step ro ι w ι' w'.drew :=
  ⟨a.le, a.len, a.pre, a.new, a.os, a.tape, a.output, a.size, a.old⟩
theorem Step.drew_first {ro : Nat} {ι ι' : Map} {w w' : World} (a : Step ro ι w.drew ι' w') : Step ro ι w ι' w' :=
  ⟨a.le, a.len, a.pre, a.new, a.os, a.tape, a.output, a.size, a.old⟩
theorem Rel.drew {ι : Map} {h : List Blk} {w : World} (R : Rel ι h w) : Rel ι h w.drew :=
  ⟨R.len, fun i B b sz hB hι => (R.blk i B b sz hB hι).mono (Le.refl ι) rfl, R.inj⟩

theorem heap_alloc_old (w : World) (o : Obj) {b : Nat} (h : b < w.heap.size) : (w.alloc o).heap[b]? = w.heap[b]? := by
  show (w.heap.push o)[b]? = _
  rw [Array.getElem?_push, if_neg (by omega)]
theorem heap_alloc_self (w : World) (o : Obj) : (w.alloc o).heap[w.heap.size]? = some o := by
  show (w.heap.push o)[w.heap.size]? = _
  simp

theorem Step.alloc (ro : Nat) (ι : Map) (w : World) (o : Obj) (sz : Nat) (hro : ro ≤ ι.length) : Step ro ι w (ι ++ [some (w.heap.size, sz)]) (w.alloc o) where
  le := Le.snoc ι _
  len := by simp
  pre := fun i hi => List.getElem?_append_left hi
  new := fun i b s h => by
    unfold At at h
    rw [List.getElem?_append] at h
    split at h
    · exact .inl h
    · rename_i hi
      right
      refine ⟨by omega, .inl ?_⟩
      have : i - ι.length = 0 := by
        have := (List.getElem?_eq_some_iff.1 h).1; simp at this; omega
      rw [this] at h
      simp at h
      omega
  os := rfl
  tape := rfl
  output := rfl
  size := by simp
  old := fun b hb _ => heap_alloc_old w o hb

theorem Rel.alloc {ι : Map} {h : List Blk} {w : World} (R : Rel ι h w) (o : Obj) (B : Blk) (sz : Nat)
    (hB : BR (ι ++ [some (w.heap.size, sz)]) (w.alloc o) w.heap.size sz B) : Rel (ι ++ [some (w.heap.size, sz)]) (h ++ [B]) (w.alloc o) := by
  have split_at : ∀ i b s, At (ι ++ [some (w.heap.size, sz)]) i b s → (i < ι.length ∧ At ι i b s) ∨ (i = ι.length ∧ b = w.heap.size ∧ s = sz) := by
    intro i b s hi
    unfold At at hi
    rw [List.getElem?_append] at hi
    split at hi
    · exact .inl ⟨by assumption, hi⟩
    · right
      have h0 : i - ι.length = 0 := by
        have := (List.getElem?_eq_some_iff.1 hi).1; simp at this; omega
      rw [h0] at hi
      simp at hi
      exact ⟨by omega, by omega, by omega⟩
  have hold : ∀ i A, i < ι.length → (h ++ [B])[i]? = some A → h[i]? = some A := by
    intro i A hi hA
    rwa [List.getElem?_append_left (by rw [← R.len]; exact hi)] at hA
  have hnew : ∀ A, (h ++ [B])[ι.length]? = some A → A = B := by
    intro A hA
    rw [R.len] at hA
    simp at hA
    exact hA.symm
  refine ⟨by simp [R.len], ?_, ?_⟩
  · intro i A b s hA hi
    rcases split_at i b s hi with ⟨hlt, hi'⟩ | ⟨rfl, rfl, rfl⟩
    · have r := R.blk i A b s (hold i A hlt hA) hi'
      cases hd : isDead A with
      | true => cases A <;> simp [isDead] at hd; trivial
      | false => exact r.mono (Le.snoc ι _) (heap_alloc_old w o (r.lt hd))
    · rw [hnew A hA]; exact hB
  · intro i j Bi Bj b s t hi hj di dj ai aj
    rcases split_at i b s ai with ⟨hlt, ai'⟩ | ⟨rfl, rfl, rfl⟩
    · rcases split_at j b t aj with ⟨hlt', aj'⟩ | ⟨rfl, rfl, rfl⟩
      · exact R.inj i j Bi Bj b s t (hold i Bi hlt hi) (hold j Bj hlt' hj) di dj ai' aj'
      · have := (R.blk i Bi _ s (hold i Bi hlt hi) ai').lt di
        omega
    · rcases split_at j _ t aj with ⟨hlt', aj'⟩ | ⟨rfl, _, _⟩
      · have := (R.blk j Bj _ t (hold j Bj hlt' hj) aj').lt dj
        omega
      · rfl

/-- A block nobody may use any more. -/
theorem Rel.kill {ι : Map} {h : List Blk} {w : World} (R : Rel ι h w) (k : Nat) : Rel ι (h.set k .dead) w := by
  have look : ∀ (i : Nat) (B : Blk), (h.set k .dead)[i]? = some B → isDead B = false → h[i]? = some B := by
    intro i B hi hd
    rw [List.getElem?_set] at hi
    split at hi
    · split at hi
      · simp at hi; subst hi; simp [isDead] at hd
      · simp at hi
    · exact hi
  refine ⟨by simp [R.len], ?_, ?_⟩
  · intro i B b sz hi ha
    cases hd : isDead B with
    | true => cases B <;> simp [isDead] at hd; trivial
    | false => exact R.blk i B b sz (look i B hi hd) ha
  · intro i j Bi Bj b s t hi hj di dj ai aj
    exact R.inj i j Bi Bj b s t (look i Bi hi di) (look j Bj hj dj) di dj ai aj

/-- One block turns into another one, in the heap and in the world. -/
theorem Rel.turn {ι : Map} {h : List Blk} {w w' : World} (R : Rel ι h w) {k b sz : Nat} {B C : Blk} (hk : h[k]? = some B) (hd : isDead B = false) (hι : At ι k b sz)
    (hC : BR ι w' b sz C) (hw : ∀ c, c ≠ b → w'.heap[c]? = w.heap[c]?) : Rel ι (h.set k C) w' := by
  have hlen : k < h.length := (List.getElem?_eq_some_iff.1 hk).1
  have look : ∀ (i : Nat) (A : Blk), (h.set k C)[i]? = some A → (i = k ∧ A = C) ∨ (i ≠ k ∧ h[i]? = some A) := by
    intro i A hi
    rw [List.getElem?_set] at hi
    split at hi
    · rename_i e
      simp at hi
      exact .inl ⟨e.symm, hi.symm⟩
    · rename_i e
      exact .inr ⟨fun e' => e e'.symm, hi⟩
  refine ⟨by simp [R.len], ?_, ?_⟩
  · intro i A c s hi ha
    rcases look i A hi with ⟨rfl, rfl⟩ | ⟨hne, hi'⟩
    · obtain ⟨rfl, rfl⟩ := ha.inj hι; exact hC
    · cases hdA : isDead A with
      | true => cases A <;> simp [isDead] at hdA; trivial
      | false =>
        refine (R.blk i A c s hi' ha).mono (Le.refl ι) (hw c ?_)
        intro e
        subst e
        exact hne (R.inj i k A B c s sz hi' hk hdA hd ha hι)
  · intro i j Bi Bj c s t hi hj di dj ai aj
    rcases look i Bi hi with ⟨rfl, rfl⟩ | ⟨hne, hi'⟩
    · rcases look j Bj hj with ⟨rfl, rfl⟩ | ⟨hne', hj'⟩
      · rfl
      · exact R.inj i j B Bj c s t hk hj' hd dj ai aj
    · rcases look j Bj hj with ⟨rfl, rfl⟩ | ⟨hne', hj'⟩
      · exact R.inj i j Bi B c s t hi' hk di hd ai aj
      · exact R.inj i j Bi Bj c s t hi' hj' di dj ai aj

theorem Step.turn {ro : Nat} {ι : Map} {w w' : World} {k b sz : Nat} (hk : ro ≤ k) (hι : At ι k b sz) (hos : w'.os = w.os) (htape : w'.tape = w.tape) (hout : w'.output = w.output) (hsize : w'.heap.size = w.heap.size)
    (hw : ∀ c, c ≠ b → w'.heap[c]? = w.heap[c]?) : Step ro ι w ι w' :=
  ⟨Le.refl ι, Nat.le_refl _, fun _ _ => rfl, fun _ _ _ h => .inl h, hos, htape, hout, by omega, fun c _ hn => hw c fun e => hn k sz hk (e ▸ hι)⟩

end Sx
end Go.Proofs.YtmfejegpnfbajaaGreatDoor
