/-
  The abstract machine: a region that draws its order, whatever the order.
-/
import Derived.Test.YtmfejegpnfbajaaGreatDoorSxDraw
namespace Go.Proofs.YtmfejegpnfbajaaGreatDoor
namespace Sx

variable {X : Ctx} {ι : Map} {h : List Blk} {w : World}

/-! ### The slots of the trace -/

theorem take_succ_of {α : Type} {l : List α} {i : Nat} {e : α} (he : l[i]? = some e) : l.take (i + 1) = l.take i ++ [e] := by
  rw [List.take_add_one, he]; rfl

theorem Tm_succ {tmps : Array Value} {es : List Ent} {i : Nat} {e : Ent} (he : es[i]? = some e) : Tm tmps es (i + 1) = putA (Tm tmps es i) e.o.dst e.v := by
  unfold Tm
  rw [take_succ_of he, List.foldl_append]; rfl
theorem Hm_succ {h : List Blk} {es : List Ent} {i : Nat} {e : Ent} (he : es[i]? = some e) : Hm h es (i + 1) = e.h' := by
  unfold Hm
  rw [take_succ_of he, List.foldl_append]; rfl

theorem putA_size (t : Array Value) (dst : Option Tmp) (v : Value) : (putA t dst v).size = t.size := by
  cases dst <;> simp [putA]
theorem putA_ne (t : Array Value) {dst : Option Tmp} (v : Value) {d : Nat} (hd : dst ≠ some d) : (putA t dst v)[d]? = t[d]? := by
  cases dst with
  | none => rfl
  | some d' => simp only [putA]; rw [Array.getElem?_setIfInBounds_ne (fun e => hd (by rw [e]))]

theorem Tm_size (tmps : Array Value) (es : List Ent) : ∀ i, i ≤ es.length → (Tm tmps es i).size = tmps.size
  | 0, _ => rfl
  | i + 1, hi => by
    have he : es[i]? = some es[i] := List.getElem?_eq_getElem (by omega)
    rw [Tm_succ he, putA_size, Tm_size tmps es i (by omega)]

theorem Tm_none (tmps : Array Value) (es : List Ent) (d : Nat) : ∀ i, i ≤ es.length → (∀ (k : Nat) (e : Ent), k < i → es[k]? = some e → e.o.dst ≠ some d) → (Tm tmps es i)[d]? = tmps[d]?
  | 0, _, _ => rfl
  | i + 1, hi, hn => by
    have he : es[i]? = some es[i] := List.getElem?_eq_getElem (by omega)
    rw [Tm_succ he, putA_ne _ _ (hn i _ (by omega) he), Tm_none tmps es d i (by omega) fun k e hk => hn k e (by omega)]

theorem Tm_some (tmps : Array Value) (es : List Ent) (d j : Nat) (e : Ent) (hj : es[j]? = some e) (hd : e.o.dst = some d) (hs : d < tmps.size) : ∀ i, i ≤ es.length → j < i → (∀ (k : Nat) (e' : Ent), k < i → k ≠ j → es[k]? = some e' → e'.o.dst ≠ some d) → (Tm tmps es i)[d]? = some e.v
  | 0, _, hji, _ => by omega
  | i + 1, hi, hji, hn => by
    have he : es[i]? = some es[i] := List.getElem?_eq_getElem (by omega)
    rw [Tm_succ he]
    by_cases hij : i = j
    · subst hij
      rw [hj] at he
      injection he with he
      rw [← he, hd]
      simp only [putA]
      rw [Array.getElem?_setIfInBounds_self_of_lt]
      rw [Tm_size tmps es i (by omega)]; exact hs
    · rw [putA_ne _ _ (hn i _ (by omega) hij he)]
      exact Tm_some tmps es d j e hj hd hs i (by omega) (by omega) fun k e' hk => hn k e' (by omega)

theorem slots_get {ops : List Oper} {ms : List Nat} (hs : slots ops ms = true) {i j : Nat} {x y : Oper} (hi : ops[i]? = some x) (hj : ops[j]? = some y) (hne : i ≠ j) {d : Nat} (hd : x.dst = some d) :
    y.dst ≠ some d ∧ (d ∈ y.looksAt ops.toArray → (ms.getD j 0).testBit i = true ∨ (ms.getD i 0).testBit j = true) := by
  unfold slots at hs
  rw [List.all_eq_true] at hs
  have h1 := hs i (List.mem_range.2 (List.getElem?_eq_some_iff.1 hi).1)
  rw [List.all_eq_true] at h1
  have h2 := h1 j (List.mem_range.2 (List.getElem?_eq_some_iff.1 hj).1)
  have ei : ops.getD i default = x := by rw [List.getD_eq_getElem?_getD, hi]; rfl
  have ej : ops.getD j default = y := by rw [List.getD_eq_getElem?_getD, hj]; rfl
  simp only [ei, ej, hd] at h2
  have hb : (i == j) = false := by simpa using hne
  rw [hb, Bool.false_or, Bool.and_eq_true] at h2
  refine ⟨by simpa using h2.1, ?_⟩
  intro hm
  have h3 := h2.2
  rw [Bool.or_eq_true, Bool.or_eq_true] at h3
  rcases h3 with (h3 | h3) | h3
  · exfalso
    rw [Bool.not_eq_true'] at h3
    have : (y.looksAt ops.toArray).contains d = true := by simpa using hm
    rw [this] at h3; simp at h3
  · exact .inl h3
  · exact .inr h3

/-! ### New variables -/

theorem Rel.pad (R : Rel ι h w) (bs : List Blk) : Rel (ι ++ List.replicate bs.length none) (h ++ bs) w := by
  have back : ∀ i b s, At (ι ++ List.replicate bs.length none) i b s → i < ι.length ∧ At ι i b s := by
    intro i b s hi
    unfold At at hi
    rw [List.getElem?_append] at hi
    split at hi
    · exact ⟨by assumption, hi⟩
    · rw [List.getElem?_replicate] at hi
      split at hi <;> simp at hi
  have hold : ∀ (i : Nat) (A : Blk), i < ι.length → (h ++ bs)[i]? = some A → h[i]? = some A := by
    intro i A hi hA
    rwa [List.getElem?_append_left (by rw [← R.len]; exact hi)] at hA
  refine ⟨by simp [R.len], ?_, ?_⟩
  · intro i B b sz hB ha
    obtain ⟨h1, h2⟩ := back i b sz ha
    exact (R.blk i B b sz (hold i B h1 hB) h2).mono (Le.append ι _) rfl
  · intro i j Bi Bj b s t hi hj di dj ai aj
    obtain ⟨h1, h2⟩ := back i b s ai
    obtain ⟨h3, h4⟩ := back j b t aj
    exact R.inj i j Bi Bj b s t (hold i Bi h1 hi) (hold j Bj h3 hj) di dj h2 h4

theorem Step.pad (ro : Nat) (ι : Map) (w : World) (k : Nat) : Step ro ι w (ι ++ List.replicate k none) w where
  le := Le.append ι _
  len := by simp
  pre := fun i hi => List.getElem?_append_left hi
  new := fun i b s hi => by
    left
    unfold At at *
    rw [List.getElem?_append] at hi
    split at hi
    · exact hi
    · rw [List.getElem?_replicate] at hi
      split at hi <;> simp at hi
  os := rfl
  tape := rfl
  output := rfl
  size := Nat.le_refl _
  old := fun _ _ _ => rfl

theorem At.set_of {k : Nat} {x : Option (Nat × Nat)} {i b s : Nat} (ha : At (ι.set k x) i b s) : (i = k ∧ x = some (b, s) ∧ k < ι.length) ∨ (i ≠ k ∧ At ι i b s) := by
  unfold At at *
  rw [List.getElem?_set] at ha
  split at ha
  · split at ha
    · rename_i e hlt
      simp at ha
      exact .inl ⟨e.symm, ha, hlt⟩
    · simp at ha
  · rename_i e
    exact .inr ⟨fun e' => e e'.symm, ha⟩

theorem Le.set {k : Nat} (hk : ι[k]? = some none) (x : Option (Nat × Nat)) : Le ι (ι.set k x) := fun i b s ha => by
  unfold At at *
  have : k ≠ i := by
    intro e
    subst e
    rw [hk] at ha
    simp at ha
  rw [List.getElem?_set_ne this]; exact ha

theorem Rel.born (R : Rel ι h w) {k sz : Nat} (hk : ι[k]? = some none) {B : Blk} (hB : h[k]? = some B) (o : Obj) (hb : BR (ι.set k (some (w.heap.size, sz))) (w.alloc o) w.heap.size sz B) : Rel (ι.set k (some (w.heap.size, sz))) h (w.alloc o) := by
  refine ⟨by simp [R.len], ?_, ?_⟩
  · intro i A b s hA ha
    rcases ha.set_of with ⟨rfl, e, _⟩ | ⟨hne, ha'⟩
    · simp at e
      obtain ⟨rfl, rfl⟩ := e
      rw [hB] at hA
      injection hA with hA
      exact hA ▸ hb
    · cases hd : isDead A with
      | true => cases A <;> simp [isDead] at hd; trivial
      | false =>
        have r := R.blk i A b s hA ha'
        exact r.mono (Le.set hk _) (heap_alloc_old w o (r.lt hd))
  · intro i j Bi Bj b s t hi hj di dj ai aj
    rcases ai.set_of with ⟨rfl, e, _⟩ | ⟨hne, ai'⟩
    · rcases aj.set_of with ⟨rfl, _, _⟩ | ⟨hne', aj'⟩
      · rfl
      · simp at e
        have := (R.blk j Bj b t hj aj').lt dj
        omega
    · rcases aj.set_of with ⟨rfl, e, _⟩ | ⟨hne', aj'⟩
      · simp at e
        have := (R.blk i Bi b s hi ai').lt di
        omega
      · exact R.inj i j Bi Bj b s t hi hj di dj ai' aj'

theorem Step.born {ro : Nat} {ι0 : Map} {w0 : World} (s : Step ro ι0 w0 ι w) (hro : ro ≤ ι0.length) {k sz : Nat} (hk : ι[k]? = some none) (hk0 : ι0.length ≤ k) (o : Obj) : Step ro ι0 w0 (ι.set k (some (w.heap.size, sz))) (w.alloc o) where
  le := s.le.trans (Le.set hk _)
  len := by simpa using s.len
  pre := fun i hi => by rw [List.getElem?_set_ne (by omega)]; exact s.pre i hi
  new := fun i b t ha => by
    rcases ha.set_of with ⟨rfl, e, _⟩ | ⟨hne, ha'⟩
    · simp at e
      have := s.size
      exact .inr ⟨by omega, .inl (by omega)⟩
    · exact s.new i b t ha'
  os := s.os
  tape := s.tape
  output := s.output
  size := by have := s.size; simp; omega
  old := fun b hb hn => by rw [heap_alloc_old w o (Nat.lt_of_lt_of_le hb s.size)]; exact s.old b hb hn

theorem still_spec {P : Program} {t : TypeId} {B : Option Blk} (hs : still P t B = true) : ∃ z, zeroT P t = some z ∧ B = some (.cells z t false) := by
  unfold still at hs
  split at hs
  · rename_i c e wd
    cases hz : zeroT P t with
    | none => simp [hz] at hs
    | some z =>
      simp only [hz, Bool.and_eq_true, beq_iff_eq, Bool.not_eq_true'] at hs
      obtain ⟨⟨⟨h1, h2⟩, h3⟩, h4⟩ := hs
      refine ⟨z, rfl, ?_⟩
      have : c = z := by
        apply List.ext_getElem h1
        intro i hi hi'
        rw [List.all_eq_true] at h2
        have := h2 (c[i], z[i]) (by rw [List.mem_iff_getElem?]; exact ⟨i, by rw [List.getElem?_zip_eq_some]; exact ⟨List.getElem?_eq_getElem hi, List.getElem?_eq_getElem hi'⟩⟩)
        exact eqV_eq 8 _ _ this
      rw [this, h3, h4]
  · simp at hs

theorem fresh_len {P : Program} : ∀ (l : List Oper) (bs : List Blk) (id i : Nat), fresh P l = some bs → i ≤ l.length → id ≤ Im id l i ∧ Im id l i + (if ((l[i]?).bind (fun o => allocT o.op)).isSome then 1 else 0) ≤ id + bs.length
  | [], bs, id, i, hf, hi => by
    simp [fresh] at hf
    subst hf
    simp at hi
    subst hi
    simp [Im]
  | o :: l, bs, id, i, hf, hi => by
    simp only [fresh] at hf
    cases hal : allocT o.op with
    | none =>
      simp only [hal] at hf
      cases i with
      | zero => simp [Im, hal]
      | succ i =>
        have := fresh_len l bs id i hf (by simpa using hi)
        have hb : bump o id = id := by simp [bump, hal]
        simpa [Im, List.take_succ_cons, List.foldl_cons, hb] using this
    | some t =>
      simp only [hal] at hf
      cases hz : zeroT P t with
      | none => simp [hz] at hf
      | some z =>
        cases hr : fresh P l with
        | none => simp [hz, hr] at hf
        | some bs' =>
          simp [hz, hr] at hf
          subst hf
          cases i with
          | zero => simp [Im, hal]
          | succ i =>
            have := fresh_len l bs' (id + 1) i hr (by simpa using hi)
            have hb : bump o id = id + 1 := by simp [bump, hal]
            simp only [Im, List.take_succ_cons, List.foldl_cons, hb, List.getElem?_cons_succ, List.length_cons] at this ⊢
            omega

/-- Different new variables have different places. -/
theorem Im_lt {l : List Oper} {id i j : Nat} {o : Oper} (hi : l[i]? = some o) (ha : (allocT o.op).isSome = true) (hij : i < j) : Im id l i < Im id l j := by
  have mono : ∀ (r : List Oper) (n : Nat), n ≤ r.foldl (fun n o => bump o n) n := by
    intro r
    induction r with
    | nil => intro n; exact Nat.le_refl _
    | cons a r ih => intro n; rw [List.foldl_cons]; refine Nat.le_trans ?_ (ih _); unfold bump; split <;> omega
  have h1 : l.take j = l.take (i + 1) ++ (l.take j).drop (i + 1) := by
    have : l.take (i + 1) = (l.take j).take (i + 1) := by rw [List.take_take]; congr 1; omega
    rw [this, List.take_append_drop]
  unfold Im
  rw [h1, List.foldl_append, take_succ_of hi, List.foldl_append]
  have := mono ((l.take j).drop (i + 1)) (bump o ((l.take i).foldl (fun n o => bump o n) id))
  simp only [List.foldl_cons, List.foldl_nil]
  have hb : bump o ((l.take i).foldl (fun n o => bump o n) id) = (l.take i).foldl (fun n o => bump o n) id + 1 := by simp [bump, ha]
  omega

end Sx
end Go.Proofs.YtmfejegpnfbajaaGreatDoor
