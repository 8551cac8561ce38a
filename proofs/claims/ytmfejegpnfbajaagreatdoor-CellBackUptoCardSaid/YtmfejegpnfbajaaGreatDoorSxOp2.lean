/-
  The abstract machine: new memory, building, appending, copying.
-/
import Derived.Test.YtmfejegpnfbajaaGreatDoorSxOp1
import Derived.IntWalk
import Derived.Laws.BytesString
namespace Go.Proofs.YtmfejegpnfbajaaGreatDoor
namespace Sx

variable {ι : Map} {h : List Blk} {w : World}

/-- What an operation that makes a value comes to. -/
def Got (ro : Nat) (ι : Map) (w : World) (v : Value) (h' : List Blk) (s : Result Value) : Prop :=
  ∃ v' w' ι', s = .ok v' w' ∧ Rel ι' h' w' ∧ Step ro ι w ι' w' ∧ VR ι' v v'

theorem Got.same {ro : Nat} (R : Rel ι h w) {v v' : Value} (r : VR ι v v') : Got ro ι w v h (.ok v' w) := ⟨v', w, ι, rfl, R, .refl ro ι w, r⟩

theorem alloc_run (R : Rel ι h w) (P : Program) {ro : Nat} (hro : ro ≤ ι.length) {t : TypeId} {z : List Value} (hz : zeroT P t = some z) (old : Value) :
    Got ro ι w (.pointer (some ⟨h.length, 0, none⟩)) (h ++ [.cells z t false]) ((Instr.alloc t true old).run P w) := by
  obtain ⟨v, h1, h2⟩ := zeroT_run hz w
  refine ⟨.pointer (some ⟨w.heap.size, 0, none⟩), w.alloc (.cells (z ++ []).toArray t), _, ?_, new_rel R t false [] (VRL.flat_self (zeroT_flat hz)) (fun _ => rfl), Step.alloc ro ι w _ _ hro, .ptr 0 (at_new ι _ _ h R.len)⟩
  simp only [Instr.alloc, Sem.run_bind, h1, Result.andThen_ok, newVar, newRow_run, h2, List.append_nil, Sem.run_pure]

theorem box_run (R : Rel ι h w) (P : Program) {ro : Nat} (hro : ro ≤ ι.length) (t : TypeId) {x x' : Value} (hx : VR ι x x') :
    Got ro ι w (.pointer (some ⟨h.length, 0, none⟩)) (h ++ [.cells x.cells.toList t false]) ((Instr.box t x').run P w) := by
  refine ⟨.pointer (some ⟨w.heap.size, 0, none⟩), w.alloc (.cells (x'.cells.toList ++ []).toArray t), _, ?_, new_rel R t false [] hx.cells (fun _ => rfl), Step.alloc ro ι w _ _ hro, .ptr 0 (at_new ι _ _ h R.len)⟩
  simp only [Instr.box, newVar, Sem.run_bind, newRow_run, Result.andThen_ok, List.append_nil, Sem.run_pure, Array.toArray_toList]

theorem zeros_flat (z : List Value) (hz : z.all isFlat = true) (hp : 0 < z.length) (n : Nat) : (((Array.range n).map (z.toArray[· % z.length]!)).toList).all isFlat = true := by
  simp only [Array.toList_map, List.all_map, List.all_eq_true, Function.comp_apply]
  intro i _
  have hlt : i % z.length < z.toArray.size := by simpa using Nat.mod_lt _ hp
  rw [getElem!_pos z.toArray _ hlt]
  exact List.all_eq_true.1 hz _ (by simp)

theorem map_range0 {α : Type} (f : Nat → α) : Array.map f (Array.range 0) = #[] := by
  apply Array.ext'; simp

theorem makeSliceA_run (R : Rel ι h w) (P : Program) {ro : Nat} (hro : ro ≤ ι.length) {t : TypeId} {l c l' c' v : Value} {h' : List Blk} (hl : makeSliceA P h t l c = some (v, h')) (rl : VR ι l l') (rc : VR ι c c') :
    Got ro ι w v h' ((Instr.makeSlice t l' c').run P w) := by
  unfold makeSliceA at hl
  split at hl
  · rename_i elem kl l kc c hu
    rw [rl.int_inv, rc.int_inv]
    cases hi : P.info? elem with
    | none => simp [hi] at hl
    | some info =>
      simp only [hi, Option.bind_eq_bind, Option.bind_some] at hl
      cases hz : zeroT P elem with
      | none => simp [hz] at hl
      | some z =>
        simp only [hz, Option.bind_some] at hl
        split at hl
        · rename_i hc
          obtain ⟨c1, c2, c3, c4, c5, c6, c7⟩ := hc
          simp only [Option.some.injEq, Prod.mk.injEq] at hl
          obtain ⟨rfl, rfl⟩ := hl
          obtain ⟨zv, z1, z2⟩ := zeroT_run hz w
          have hw1 : IntKind.i64.wrap l = l := IntWalk.i64_in _ (by omega)
          have hw2 : IntKind.i64.wrap c = c := IntWalk.i64_in _ (by omega)
          have hfl := zeros_flat z (zeroT_flat hz) (by omega) (c.toNat * info.size)
          have ht : ¬ ((c < 0) ∨ (info.bytes : Int) * c > 2 ^ 48) := by
            rw [Int.mul_comm] at c4
            omega
          refine ⟨.slice (some ⟨w.heap.size, 0, none⟩) l.toNat c.toNat, w.alloc (.cells ((((Array.range (c.toNat * info.size)).map (z.toArray[· % z.length]!)).toList) ++ []).toArray elem), _, ?_,
            new_rel R elem false [] (VRL.flat_self hfl) (fun _ => rfl), Step.alloc ro ι w _ _ hro, .slice 0 _ _ (at_new ι _ _ h R.len) (by unfold unk; omega)⟩
          have ht1 : decide (c < 0) = false := by simp; omega
          have ht2 : decide ((info.bytes : Int) * c > 2 ^ 48) = false := by simp; omega
          have hl1 : decide (l < 0) = false := by simpa using c1
          have hl2 : decide (l > c) = false := by simp; omega
          simp only [Instr.makeSlice, Sem.run_bind, und_run hu, Result.andThen_ok, asInt, asIntOf, Sem.run_pure, info_run hi, hw1, hw2, run_askRoom, sizeOf, newRow_run]
          have hbc : ¬ (281474976710656 < (info.bytes : Int) * c) := by omega
          by_cases hn : c.toNat * info.size = 0
          · simp [hl1, hl2, ht1]
            rw [if_neg hbc]
            simp [info_run hi, hn, newRow_run]
            rw [map_range0]
          · simp [hl1, hl2, ht1]
            rw [if_neg hbc]
            simp only [info_run hi, hn, z1, z2, newRow_run, Result.andThen_ok, if_false]
            have e : Array.map (fun x => z.toArray[x % z.toArray.size]!) (Array.range (c.toNat * info.size)) = (List.map (fun x => z[x % z.length]?.getD default) (List.range (c.toNat * info.size))).toArray := by
              apply Array.ext'; simp
            rw [e]
        · simp at hl
  · simp at hl

/-! ### Building -/

theorem fold_rel : ∀ (l l' : List (Value × Nat)) (cs cs' : Array Value) (off : Nat), VRL ι cs.toList cs'.toList → VRL ι (l.map (·.1)) (l'.map (·.1)) → l.map (·.2) = l'.map (·.2) →
    VRL ι (l.foldl (fun cs (x : Value × Nat) => cs.setIfInBounds (off + x.2) x.1) cs).toList (l'.foldl (fun cs (x : Value × Nat) => cs.setIfInBounds (off + x.2) x.1) cs').toList
  | [], l', cs, cs', off, h, h1, _ => by
    have := h1.cases_nil
    simp at this
    subst this
    exact h
  | (v, j) :: l, l', cs, cs', off, h, h1, h2 => by
    match l', h1, h2 with
    | [], h1, _ => exact absurd h1.1 (by simp)
    | (v', j') :: l', h1, h2 =>
      simp at h2
      obtain ⟨rfl, h2⟩ := h2
      simp only [List.foldl_cons]
      refine fold_rel l l' _ _ off ?_ h1.tail (by simpa using h2)
      simp only [Array.toList_setIfInBounds]
      exact h.set _ h1.head

/-- Parts that are laid into a struct. -/
def PRL (ι : Map) (l l' : List (Nat × Value)) : Prop := l.length = l'.length ∧ ∀ (i : Nat) (a b : Nat × Value), l[i]? = some a → l'[i]? = some b → a.1 = b.1 ∧ VR ι a.2 b.2

theorem fill_rel (place : Nat → Option (Nat × Nat)) : ∀ (ps ps' : List (Nat × Value)) (cs cs' r : Array Value), Instr.fill place cs ps = some r → VRL ι cs.toList cs'.toList → PRL ι ps ps' →
    ∃ r', Instr.fill place cs' ps' = some r' ∧ VRL ι r.toList r'.toList
  | [], ps', cs, cs', r, hf, h, hp => by
    have : ps' = [] := by
      cases ps' with
      | nil => rfl
      | cons a l => exact absurd hp.1 (by simp)
    subst this
    simp [Instr.fill] at hf
    subst hf
    exact ⟨cs', rfl, h⟩
  | (i, v) :: ps, ps', cs, cs', r, hf, h, hp => by
    match ps', hp with
    | [], hp => exact absurd hp.1 (by simp)
    | (i', v') :: ps', hp =>
      obtain ⟨e, hv⟩ := hp.2 0 _ _ rfl rfl
      simp only at e hv
      subst e
      have hp' : PRL ι ps ps' := ⟨by simpa using hp.1, fun k a b x y => hp.2 (k + 1) a b (by simpa using x) (by simpa using y)⟩
      simp only [Instr.fill] at hf ⊢
      cases hpl : place i with
      | none => simp [hpl] at hf
      | some os =>
        obtain ⟨off, size⟩ := os
        simp only [hpl] at hf ⊢
        have hs : v.cells.size = v'.cells.size := by simpa using hv.cells.1
        have hc : cs.size = cs'.size := by simpa using h.1
        rw [← hs, ← hc]
        split at hf
        · simp at hf
        · rename_i hcond
          rw [if_neg hcond]
          refine fill_rel place ps ps' _ _ r hf ?_ hp'
          rw [← Array.foldl_toList, ← Array.foldl_toList]
          refine fold_rel _ _ _ _ off h ?_ ?_
          · simp only [Array.toList_zipIdx, List.zipIdx_map_fst]
            exact hv.cells
          · have hs' : v.cells.toList.length = v'.cells.toList.length := by simpa using hs
            simp only [Array.toList_zipIdx, List.zipIdx_map_snd, hs']

theorem mapM_run {α β : Type} (P : Program) (f : α → Option β) (g : α → Sem β) (w : World) : ∀ (l : List α) (r : List β), l.mapM f = some r → (∀ x y, x ∈ l → f x = some y → (g x).run P w = .ok y w) → (l.mapM g).run P w = .ok r w
  | [], r, h, _ => by simp at h; subst h; simp
  | a :: l, r, h, hg => by
    simp only [List.mapM_cons, Option.bind_eq_bind] at h
    cases ha : f a with
    | none => simp [ha] at h
    | some y =>
      simp only [ha, Option.bind_some] at h
      cases hl : l.mapM f with
      | none => simp [hl] at h
      | some ys =>
        simp [hl] at h
        subst h
        have := mapM_run P f g w l ys hl (fun x y hx => hg x y (by simp [hx]))
        simp [List.mapM_cons, hg a y (by simp) ha, this]

theorem amapM_run {α β : Type} (P : Program) (f : α → Option β) (g : α → Sem β) (w : World) (l : Array α) (r : List β) (h : l.toList.mapM f = some r) (hg : ∀ x y, x ∈ l.toList → f x = some y → (g x).run P w = .ok y w) : (l.mapM g).run P w = .ok r.toArray w := by
  rw [Array.mapM_eq_mapM_toList]
  simp [mapM_run P f g w l.toList r h hg]

theorem places_run (P : Program) (fields : Array Field) (places : List (Nat × Nat)) (hp : (fields.toList.mapM fun (f : Field) => (sizeT P f.type).bind fun n => some (f.offset, n)) = some places) (w : World) :
    (fields.mapM fun (f : Field) => do pure (f.offset, ← sizeOf f.type)).run P w = .ok places.toArray w := by
  refine amapM_run P _ _ w fields places hp ?_
  intro x y _ hy
  cases hn : sizeT P x.type with
  | none => simp [hn] at hy
  | some n =>
    simp [hn] at hy
    subst hy
    simp [sizeT_run hn]

theorem buildA_run (P : Program) {t : TypeId} {ps : List (Nat × Value)} {ps' : Array (Nat × Value)} {v : Value} (hl : buildA P t ps = some v) (hp : PRL ι ps ps'.toList) (w : World) :
    ∃ v', (Instr.build t ps').run P w = .ok v' w ∧ VR ι v v' := by
  unfold buildA at hl
  cases hz : zeroT P t with
  | none => simp [hz] at hl
  | some z =>
    simp only [hz, Option.bind_eq_bind, Option.bind_some] at hl
    obtain ⟨zv, z1, z2⟩ := zeroT_run hz w
    have hzz : VRL ι z.toArray.toList z.toArray.toList := VRL.flat_self (zeroT_flat hz)
    split at hl
    · rename_i fields hu
      cases hpl : (fields.toList.mapM fun (f : Field) => (sizeT P f.type).bind fun n => some (f.offset, n)) with
      | none => simp [hpl] at hl
      | some places =>
        simp only [hpl, Option.bind_some] at hl
        cases hf : Instr.fill (places.toArray[·]?) z.toArray ps with
        | none => simp only [hf, Option.bind_none, reduceCtorEq] at hl
        | some cells =>
          simp only [hf, Option.bind_some, Option.some.injEq] at hl
          obtain ⟨r', h1, h2⟩ := fill_rel _ _ _ _ _ _ hf hzz hp
          refine ⟨.agg r', ?_, hl ▸ h2.agg⟩
          simp only [Instr.build, Sem.run_bind, z1, Result.andThen_ok, und_run hu, places_run P fields places hpl, z2, h1, Sem.run_pure]
    · rename_i n elem hu
      cases hn : sizeT P elem with
      | none => simp [hn] at hl
      | some n =>
        simp only [hn, Option.bind_some] at hl
        cases hf : Instr.fill (fun i => some (i * n, n)) z.toArray ps with
        | none => simp only [hf, Option.bind_none, reduceCtorEq] at hl
        | some cells =>
          simp only [hf, Option.bind_some, Option.some.injEq] at hl
          obtain ⟨r', h1, h2⟩ := fill_rel _ _ _ _ _ _ hf hzz hp
          refine ⟨.agg r', ?_, hl ▸ h2.agg⟩
          simp only [Instr.build, Sem.run_bind, z1, Result.andThen_ok, und_run hu, sizeT_run hn, z2, h1, Sem.run_pure]
    · simp at hl

theorem buildSliceA_run (R : Rel ι h w) (P : Program) {ro : Nat} (hro : ro ≤ ι.length) {t : TypeId} {n : Nat} {ps : List (Nat × Value)} {ps' : Array (Nat × Value)} {v : Value} {h' : List Blk} (hl : buildSliceA P h t n ps = some (v, h'))
    (hp : PRL ι ps ps'.toList) : Got ro ι w v h' ((Instr.buildSlice t n ps').run P w) := by
  unfold buildSliceA at hl
  split at hl
  · rename_i elem hu
    cases hn : sizeT P elem with
    | none => simp [hn] at hl
    | some k =>
      simp only [hn, Option.bind_eq_bind, Option.bind_some] at hl
      cases hz : zeroT P elem with
      | none => simp [hz] at hl
      | some z =>
        simp only [hz, Option.bind_some] at hl
        split at hl
        · rename_i hc
          obtain ⟨c1, c2, c3⟩ := hc
          cases hf : Instr.fill (fun i => some (i * k, k)) ((Array.range (n * k)).map (z.toArray[· % z.length]!)) ps with
          | none => simp only [hf, Option.bind_none, reduceCtorEq] at hl
          | some cells =>
            simp only [hf, Option.bind_some] at hl
            split at hl
            · simp only [Option.some.injEq, Prod.mk.injEq] at hl
              obtain ⟨rfl, rfl⟩ := hl
              obtain ⟨zv, z1, z2⟩ := zeroT_run hz w
              have hfl := zeros_flat z (zeroT_flat hz) (by omega) (n * k)
              obtain ⟨r', h1, h2⟩ := fill_rel (ι := ι) _ _ _ _ _ _ hf (VRL.flat_self hfl) hp
              refine ⟨.slice (some ⟨w.heap.size, 0, none⟩) n n, w.alloc (.cells (r'.toList ++ []).toArray elem), _, ?_, new_rel R elem false [] h2 (fun _ => rfl), Step.alloc ro ι w _ _ hro, .slice 0 _ _ (at_new ι _ _ h R.len) ?_⟩
              · have hb : ¬ (n * k > 2 ^ 24) := by omega
                simp only [Instr.buildSlice, Sem.run_bind, und_run hu, Result.andThen_ok, sizeT_run hn, hb, if_false]
                by_cases hz0 : n * k = 0
                · rw [hz0, map_range0] at h1
                  simp only [hz0, if_true, Sem.run_pure, Result.andThen_ok, map_range0, h1, Sem.run_map, Sem.run_bind, newRow_run, List.append_nil, Array.toArray_toList]
                · have hsz : z.toArray.size = z.length := by simp
                  simp only [hz0, if_false, Sem.run_pure, Result.andThen_ok, z1, z2, hsz, h1, Sem.run_map, Sem.run_bind, newRow_run, List.append_nil, Array.toArray_toList]
              · unfold unk
                have : n ≤ n * k := Nat.le_mul_of_pos_right n c2
                omega
            · simp at hl
        · simp at hl
  · simp at hl

end Sx
end Go.Proofs.YtmfejegpnfbajaaGreatDoor
