/-
  The abstract machine: reading and writing memory.
-/
import Derived.Test.YtmfejegpnfbajaaGreatDoorSxRel
namespace Go.Proofs.YtmfejegpnfbajaaGreatDoor
namespace Sx

theorem add_at (b off n : Nat) : (⟨b, off, none⟩ : Addr).add n = ⟨b, off + n, none⟩ := by
  unfold Addr.add; split <;> simp_all

theorem cellOk_one {v : Value} (h : cellOk v = true) : v.oneCell' = true := by cases v <;> simp_all [cellOk, Value.oneCell']

theorem VR.cellOk {ι : Map} {v v' : Value} (r : VR ι v v') (h : cellOk v = true) : cellOk v' = true := by
  cases r <;> simp_all [Sx.cellOk]

/-- Reading cells. -/
theorem rd_run {ι : Map} {h : List Blk} {w : World} (R : Rel ι h w) (P : Program) {a : Addr} {n : Nat} {vs : List Value} (hr : rd h a n = some vs) {a' : Addr}
    (ha : VR ι (.pointer (some a)) (.pointer (some a'))) : ∃ vs', (loadCells a' n).run P w = .ok vs'.toArray w ∧ VRL ι vs vs' ∧ vs.length = n := by
  cases ha with
  | @ptr i b sz off hι =>
    unfold rd at hr
    simp only [Option.isSome_none, Bool.false_eq_true, if_false] at hr
    split at hr
    · rename_i c e wd hb
      split at hr
      · rename_i hle
        simp at hr
        obtain ⟨c', fz, h1, h2, h3, h4, h5, h6⟩ := R.blk i _ b sz hb hι
        have hv : VRL ι vs (((c'.toList.take c.length).drop off).take n) := by rw [← hr]; exact (h6.drop off).take n
        have hlen : (((c'.toList.take c.length).drop off).take n).length = n := by
          simp
          omega
        refine ⟨_, ?_, hv, by rw [hv.1, hlen]⟩
        have := run_loadCells_list (P := P) w ⟨b, off, none⟩ (((c'.toList.take c.length).drop off).take n) (fun j v hj => by
          rw [List.getElem?_take] at hj
          split at hj
          · rw [List.getElem?_drop, List.getElem?_take] at hj
            split at hj
            · rw [add_at]
              simp only [World.cell?, h1, Option.isSome_none, Bool.false_eq_true, if_false]
              rwa [Array.getElem?_toList] at hj
            · simp at hj
          · simp at hj)
        rw [hlen] at this
        exact this
      · simp at hr
    · rename_i c hb
      split at hr
      · rename_i hle
        simp at hr
        obtain ⟨_, h2⟩ := R.blk i _ b sz hb hι
        have hlen : ((c.drop off).take n).length = n := by simp; omega
        have key : ∀ j, j < n → ∃ v v', vs[j]? = some v ∧ w.cell? ⟨b, off + j, none⟩ = some v' ∧ VR ι v v' := by
          intro j hj
          have hj2 : off + j < c.length := by omega
          obtain ⟨v', h3, h4⟩ := h2 (off + j) c[off + j] (List.getElem?_eq_getElem hj2)
          refine ⟨c[off + j], v', ?_, h3, h4⟩
          rw [← hr, List.getElem?_take, if_pos hj, List.getElem?_drop, List.getElem?_eq_getElem hj2]
        let vs' := (List.range n).map fun j => (w.cell? ⟨b, off + j, none⟩).getD undef
        have hl' : vs'.length = n := by simp [vs']
        refine ⟨vs', ?_, ⟨by rw [hl', ← hr, hlen], ?_⟩, by rw [← hr, hlen]⟩
        · have := run_loadCells_list (P := P) w ⟨b, off, none⟩ vs' (fun j v hj => by
            have hjn : j < n := by rw [← hl']; exact (List.getElem?_eq_some_iff.1 hj).1
            obtain ⟨v0, v', _, h3, _⟩ := key j hjn
            rw [add_at, h3]
            simp [vs', hjn, h3] at hj
            rw [hj])
          rw [hl'] at this
          exact this
        · intro j x y hx hy
          have hjn : j < n := by rw [← hl']; exact (List.getElem?_eq_some_iff.1 hy).1
          obtain ⟨v0, v', h0, h3, h4⟩ := key j hjn
          rw [h0] at hx
          simp [vs', hjn, h3] at hy
          simp at hx
          rw [← hx, ← hy]; exact h4
      · simp at hr
    · simp at hr

theorem run_storeCells_fz (P : Program) (g o : Nat) (t : TypeId) (fz : Nat × Nat) : ∀ (vs : List Value) (i : Nat) (cur : Array Value) (w : World), w.heap[g]? = some (.cells cur t fz) → (∀ off, off < cur.size → ¬ (fz.1 ≤ off ∧ off < fz.2)) → o + i + vs.length ≤ cur.size → (∀ v ∈ vs, v.oneCell' = true) →
    (storeCells ⟨g, o, none⟩ vs i).run P w = .ok () (w.setRow g (cur.toList.take (o + i) ++ vs ++ cur.toList.drop (o + i + vs.length)).toArray)
  | [], i, cur, w, hg, _, _, _ => by
    simp only [storeCells, List.append_nil, List.length_nil, Nat.add_zero, List.take_append_drop, Array.toArray_toList]
    rw [setRow_self w g cur t fz hg]
    rfl
  | v :: rest, i, cur, w, hg, hfz, hl, h1 => by
    have hi : o + i < cur.size := by simp at hl; omega
    have hcell : w.cell? ⟨g, o + i, none⟩ = some cur[o + i] := by simp [World.cell?, hg, hi]
    have hfro : w.frozen? ⟨g, o + i, none⟩ = false := by
      have := hfz (o + i) hi
      obtain ⟨lo, hi'⟩ := fz
      simp only [World.frozen?, hg, Bool.and_eq_false_iff, decide_eq_false_iff_not]
      simp only [not_and] at this
      by_cases hh : lo ≤ o + i
      · exact .inr (this hh)
      · exact .inl hh
    have hst : (store ((⟨g, o, none⟩ : Addr).add i) v).run P w = .ok () (w.setRow g (cur.setIfInBounds (o + i) v)) := by
      rw [add_at, run_store P w _ v _ (h1 v (by simp)), hcell]
      simp [hfro, setCell_eq_setRow w g (o + i) cur t fz v hg]
    have ih := run_storeCells_fz P g o t fz rest (i + 1) (cur.setIfInBounds (o + i) v) (w.setRow g (cur.setIfInBounds (o + i) v)) (setRow_heap w g cur _ t _ hg) (by simpa using hfz) (by simp at hl ⊢; omega) (fun x hx => h1 x (by simp [hx]))
    simp only [storeCells, Sem.run_bind, hst, Result.andThen_ok, ih, setRow_setRow]
    congr 3
    apply List.ext_getElem?
    intro j
    simp only [Array.toList_setIfInBounds, List.getElem?_append, List.length_append, List.length_take, List.length_set, List.length_cons, Array.length_toList, List.getElem?_take, List.getElem?_drop, List.getElem?_set]
    simp only [List.length_cons] at hl
    have e1 : min (o + (i + 1)) cur.size = o + i + 1 := by omega
    have e2 : min (o + i) cur.size = o + i := by omega
    rw [e1, e2]
    by_cases c1 : j < o + i
    · have c2 : j < o + i + 1 + rest.length := by omega
      have c3 : j < o + i + 1 := by omega
      have c4 : j < o + i + (rest.length + 1) := by omega
      have c5 : j < o + (i + 1) := by omega
      have c6 : ¬ (o + i = j) := by omega
      simp [c1, c2, c3, c4, c5, c6]
    · by_cases c0 : j = o + i
      · subst c0
        have c2 : o + i < o + i + 1 + rest.length := by omega
        have c3 : o + i < o + i + 1 := by omega
        have c4 : o + i < o + i + (rest.length + 1) := by omega
        have c5 : o + i < o + (i + 1) := by omega
        simp [c2, c5, hi]
      · have c3 : ¬ j < o + i + 1 := by omega
        by_cases c2 : j < o + i + 1 + rest.length
        · have c4 : j < o + i + (rest.length + 1) := by omega
          have c7 : j - (o + i) = (j - (o + i + 1)) + 1 := by omega
          simp [c1, c2, c3, c4, c7]
        · have c4 : ¬ j < o + i + (rest.length + 1) := by omega
          have c7 : o + (i + 1) + rest.length + (j - (o + i + 1 + rest.length)) = j := by omega
          have c8 : o + i + (rest.length + 1) + (j - (o + i + (rest.length + 1))) = j := by omega
          have c9 : ¬ o + i = j := by omega
          simp [c2, c4, c7, c8, c9]

theorem setRow_other (w : World) (g : Nat) (cs : Array Value) {c : Nat} (h : c ≠ g) : (w.setRow g cs).heap[c]? = w.heap[c]? := by
  unfold World.setRow
  simp only [Array.getElem?_modify]
  rw [if_neg (fun e => h e.symm)]

theorem setRow_size (w : World) (g : Nat) (cs : Array Value) : (w.setRow g cs).heap.size = w.heap.size := by
  unfold World.setRow; simp

/-- Writing cells. -/
theorem wr_run {ι : Map} {h h' : List Blk} {w : World} (R : Rel ι h w) (P : Program) {ro : Nat} {a : Addr} {vs vs' : List Value} (hr : wr ro h a vs = some h') {a' : Addr}
    (ha : VR ι (.pointer (some a)) (.pointer (some a'))) (hv : VRL ι vs vs') : ∃ w', (storeCells a' vs').run P w = .ok () w' ∧ Rel ι h' w' ∧ Step ro ι w ι w' := by
  cases ha with
  | @ptr i b sz off hι =>
    unfold wr at hr
    simp only [Option.isSome_none, Bool.false_eq_true, if_false] at hr
    split at hr
    · simp at hr
    rename_i hro
    split at hr
    · rename_i c e wd hb
      split at hr
      · rename_i hc
        simp only [Bool.and_eq_true, decide_eq_true_eq] at hc
        obtain ⟨hle, hok⟩ := hc
        simp at hr
        obtain ⟨c', fz, h1, h2, h3, h4, h5, h6⟩ := R.blk i _ b sz hb hι
        have hok' : ∀ v ∈ vs', v.oneCell' = true := by
          intro v hvm
          obtain ⟨k, hk⟩ := List.mem_iff_getElem?.1 hvm
          have hk' : k < vs.length := hv.1 ▸ (List.getElem?_eq_some_iff.1 hk).1
          have r := hv.2 k vs[k] v (List.getElem?_eq_getElem hk') hk
          exact cellOk_one (r.cellOk (List.all_eq_true.1 hok _ (List.getElem_mem hk')))
        have hrun := run_storeCells_fz P b off e fz vs' 0 c' w h1 (by rw [h2]; exact h5) (by rw [← hv.1]; omega) hok'
        simp only [Nat.add_zero] at hrun
        refine ⟨_, hrun, ?_, ?_⟩
        · rw [← hr]
          refine R.turn hb rfl hι ?_ (fun c hc => setRow_other w b _ hc)
          refine ⟨_, fz, setRow_heap w b c' _ e fz h1, ?_, ?_, ?_, h5, ?_⟩
          · simp
            have := hv.1
            omega
          · simp; omega
          · intro hw
            have := h4 hw
            simp; omega
          · refine ⟨?_, ?_⟩
            · simp
              have := hv.1
              omega
            · have hx : VRL ι (c.take off ++ (vs ++ c.drop (off + vs.length))) ((c'.toList.take c.length).take off ++ (vs' ++ (c'.toList.take c.length).drop (off + vs'.length))) := by
                rw [← hv.1]
                exact (h6.take off).append (hv.append (h6.drop _))
              have he : (((c'.toList.take off ++ vs') ++ c'.toList.drop (off + vs'.length)).toArray.toList.take (c.take off ++ (vs ++ c.drop (off + vs.length))).length) = ((c'.toList.take c.length).take off ++ (vs' ++ (c'.toList.take c.length).drop (off + vs'.length))) := by
                have hl := hv.1
                apply List.ext_getElem?
                intro j
                simp only [List.getElem?_take, List.getElem?_append, List.getElem?_drop, List.length_append, List.length_take, List.length_drop, Array.length_toList]
                rw [h2]
                have e1 : min off c.length = off := by omega
                have e2 : min off sz = off := by omega
                have e3 : min off (min c.length sz) = off := by omega
                rw [e1, e2, e3]
                by_cases c1 : j < off
                · have c2 : j < off + (vs.length + (c.length - (off + vs.length))) := by omega
                  have c3 : j < off + vs'.length := by omega
                  have c4 : j < c.length := by omega
                  simp [c1, c2, c3, c4]
                · by_cases c2 : j < off + vs'.length
                  · have c3 : j < off + (vs.length + (c.length - (off + vs.length))) := by omega
                    have c4 : j - off < vs'.length := by omega
                    simp [c1, c2, c3, c4]
                  · by_cases c3 : j < c.length
                    · have c4 : j < off + (vs.length + (c.length - (off + vs.length))) := by omega
                      have c5 : ¬ j - off < vs'.length := by omega
                      have c6 : off + vs'.length + (j - off - vs'.length) = j := by omega
                      have c7 : off + vs'.length + (j - (off + vs'.length)) = j := by omega
                      simp [c1, c2, c3, c4, c5, c6, c7]
                    · have c4 : ¬ j < off + (vs.length + (c.length - (off + vs.length))) := by omega
                      have c5 : ¬ j - off < vs'.length := by omega
                      have c6 : off + vs'.length + (j - off - vs'.length) = j := by omega
                      simp [c1, c3, c4, c5, c6]
              rw [he]
              exact hx.2
        · exact Step.turn (by omega) hι rfl rfl rfl (setRow_size w b _) (fun c hc => setRow_other w b _ hc)
      · simp at hr
    · simp at hr

theorem info_run {P : Program} {t : TypeId} {i : TypeInfo} (h : P.info? t = some i) (w : World) : (typeInfo t).run P w = .ok i w := by
  simp [typeInfo, h]
theorem und_run {P : Program} {t : TypeId} {d : TypeDesc} (h : P.underlying t = some d) (w : World) : (underlying t).run P w = .ok d w := by
  simp [underlying, h]
theorem sizeT_run {P : Program} {t : TypeId} {n : Nat} (h : sizeT P t = some n) (w : World) : (sizeOf t).run P w = .ok n w := by
  unfold sizeT at h
  cases hi : P.info? t with
  | none => simp [hi] at h
  | some i => simp [hi] at h; simp [sizeOf, info_run hi, h]
theorem isAggT_run {P : Program} {t : TypeId} {b : Bool} (h : isAggT P t = some b) (w : World) : (isAgg t).run P w = .ok b w := by
  unfold isAggT at h
  cases hd : P.underlying t with
  | none => simp [hd] at h
  | some d =>
    simp only [isAgg, Sem.run_bind, und_run hd, Result.andThen_ok]
    rw [hd] at h
    cases d <;> simp at h <;> subst h <;> rfl
theorem zero_run {P : Program} {t : TypeId} {i : TypeInfo} {v : Value} (h : P.info? t = some i) (hz : i.zero = some v) (w : World) : (zeroValue t).run P w = .ok v w := by
  simp [zeroValue, info_run h, hz]
theorem zeroT_run {P : Program} {t : TypeId} {z : List Value} (h : zeroT P t = some z) (w : World) : ∃ v : Value, (zeroValue t).run P w = .ok v w ∧ v.cells = z.toArray := by
  unfold zeroT at h
  cases hi : P.info? t with
  | none => simp [hi] at h
  | some i =>
    simp only [hi, Option.bind_some] at h
    cases hz : i.zero with
    | none => simp [hz] at h
    | some v =>
      simp only [hz] at h
      split at h
      · simp at h; exact ⟨v, zero_run hi hz w, by rw [← h]⟩
      · simp at h
theorem zeroT_flat {P : Program} {t : TypeId} {z : List Value} (h : zeroT P t = some z) : z.all isFlat = true := by
  unfold zeroT at h
  split at h
  · split at h
    · simp at h; rw [← h]; assumption
    · simp at h
  · simp at h
theorem VRL.flat_self {ι : Map} {z : List Value} (h : z.all isFlat = true) : VRL ι z z := by
  induction z with
  | nil => exact .nil ι
  | cons a z ih => simp at h; exact .cons (isFlat_refl ι h.1) (ih (by simpa using h.2))

theorem VR.cells {ι : Map} {v v' : Value} (r : VR ι v v') : VRL ι v.cells.toList v'.cells.toList := by
  cases r with
  | agg h1 h2 => exact ⟨h1, h2⟩
  | bool b => exact .cons (.bool b) (.nil ι)
  | int k n => exact .cons (.int k n) (.nil ι)
  | float k n => exact .cons (.float k n) (.nil ι)
  | complex k m n => exact .cons (.complex k m n) (.nil ι)
  | string s => exact .cons (.string s) (.nil ι)
  | pnil => exact .cons .pnil (.nil ι)
  | ptr off h => exact .cons (.ptr off h) (.nil ι)
  | snil l c => exact .cons (.snil l c) (.nil ι)
  | slice off l c h hc => exact .cons (.slice off l c h hc) (.nil ι)
  | wide off l es c' h hl hs => exact .cons (.wide off l es c' h hl hs) (.nil ι)
  | mnil => exact .cons .mnil (.nil ι)
  | map h => exact .cons (.map h) (.nil ι)
  | cnil => exact .cons .cnil (.nil ι)
  | func hf h1 h2 h3 h4 => exact .cons (.func hf h1 h2 h3 h4) (.nil ι)
  | nilFunc => exact .cons .nilFunc (.nil ι)
  | iface t h => exact .cons (.iface t h) (.nil ι)
  | nilIface => exact .cons .nilIface (.nil ι)
  | tuple h1 h2 => exact .cons (.tuple h1 h2) (.nil ι)

theorem loadA_run {ι : Map} {h : List Blk} {w : World} (R : Rel ι h w) (P : Program) {t : TypeId} {x v : Value} (hl : loadA P h t x = some v) {x' : Value} (hx : VR ι x x') :
    ∃ a' v', x' = .pointer (some a') ∧ (loadVar t a').run P w = .ok v' w ∧ VR ι v v' := by
  unfold loadA at hl
  split at hl
  · rename_i a
    cases hx with
    | @ptr i b sz off hι =>
      cases hag : isAggT P t with
      | none => simp [hag] at hl
      | some ag =>
        simp only [hag, Option.bind_eq_bind, Option.bind_some] at hl
        cases ag with
        | true =>
          simp only [if_true] at hl
          cases hn : sizeT P t with
          | none => simp [hn] at hl
          | some n =>
            simp only [hn, Option.bind_some] at hl
            cases hr : rd h ⟨i, off, none⟩ n with
            | none => simp [hr] at hl
            | some c =>
              simp [hr] at hl
              obtain ⟨c', h1, h2, _⟩ := rd_run R P hr (.ptr off hι)
              refine ⟨_, .agg c'.toArray, rfl, ?_, ?_⟩
              · simp [loadVar, isAggT_run hag, sizeT_run hn, h1]
              · rw [← hl]; exact h2.agg'
        | false =>
          simp only [Bool.false_eq_true, if_false] at hl
          cases hr : rd h ⟨i, off, none⟩ 1 with
          | none => simp [hr] at hl
          | some c =>
            simp only [hr, Option.bind_some] at hl
            obtain ⟨c', h1, h2, h3⟩ := rd_run R P hr (.ptr off hι)
            match c, hl with
            | [u], hl =>
              simp at hl
              obtain ⟨u', k, rfl, h4, h5⟩ := h2.cases_cons
              have := h5.cases_nil
              subst this
              refine ⟨_, u', rfl, ?_, hl ▸ h4⟩
              simp only [loadVar, Sem.run_bind, isAggT_run hag, Result.andThen_ok, Bool.false_eq_true, if_false]
              have hc : w.cell? ⟨b, off, none⟩ = some u' := by
                unfold rd at hr
                simp only [Option.isSome_none, Bool.false_eq_true, if_false] at hr
                have e : (loadCells ⟨b, off, none⟩ 1).run P w = .ok #[u'] w := h1
                simp only [loadCells, loadCellsFrom, Sem.run_bind, run_load, add_at, Nat.add_zero] at e
                cases hcell : w.cell? ⟨b, off, none⟩ with
                | some y =>
                  simp [hcell] at e
                  rw [e]
                | none =>
                  exfalso
                  rw [hcell] at e
                  split at hr
                  · rename_i cc e' wd hb
                    split at hr
                    · rename_i hle
                      obtain ⟨c', fz, g1, g2, g3, _⟩ := R.blk i _ b sz hb hι
                      simp only [World.cell?, g1, Option.isSome_none, Bool.false_eq_true, if_false] at hcell
                      rw [Array.getElem?_eq_none_iff] at hcell
                      omega
                    · simp at hr
                  · rename_i cc hb
                    split at hr
                    · rename_i hle
                      obtain ⟨_, g2⟩ := R.blk i _ b sz hb hι
                      have hoff : off < cc.length := by omega
                      obtain ⟨v', g3, _⟩ := g2 off cc[off] (List.getElem?_eq_getElem hoff)
                      rw [hcell] at g3
                      cases g3
                    · simp at hr
                  · simp at hr
              rw [run_load, hc]
  · simp at hl

theorem storeA_run {ι : Map} {h h' : List Blk} {w : World} (R : Rel ι h w) (P : Program) {ro : Nat} {t : TypeId} {x v : Value} (hl : storeA P ro h t x v = some h') {x' v' : Value} (hx : VR ι x x') (hv : VR ι v v') :
    ∃ a' w', x' = .pointer (some a') ∧ (storeVar t a' v').run P w = .ok () w' ∧ Rel ι h' w' ∧ Step ro ι w ι w' := by
  unfold storeA at hl
  split at hl
  · rename_i a
    cases hx with
    | @ptr i b sz off hι =>
      cases hn : sizeT P t with
      | none => simp [hn] at hl
      | some n =>
        simp only [hn, Option.bind_eq_bind, Option.bind_some] at hl
        split at hl
        · rename_i hsz
          obtain ⟨w', h1, h2, h3⟩ := wr_run R P hl (.ptr off hι) hv.cells
          have hsz' : v'.cells.size = n := by
            have := hv.cells.1
            simpa [hsz] using this.symm
          refine ⟨_, w', rfl, ?_, h2, h3⟩
          simp [storeVar, sizeT_run hn, hsz', h1]
        · simp at hl
  · simp at hl

theorem newRow_run (P : Program) (t : TypeId) (cs : Array Value) (w : World) : (newRow t cs).run P w = .ok ⟨w.heap.size, 0, none⟩ (w.alloc (.cells cs t)) := by
  simp [newRow]

/-- A new row of cells. -/
theorem new_rel {ι : Map} {h : List Blk} {w : World} (R : Rel ι h w) {c c' : List Value} (t : TypeId) (wd : Bool) (more : List Value) (hc : VRL ι c c') (hm : wd = false → more = []) :
    Rel (ι ++ [some (w.heap.size, (c' ++ more).length)]) (h ++ [.cells c t wd]) (w.alloc (.cells (c' ++ more).toArray t)) := by
  refine R.alloc _ _ _ ⟨_, (0, 0), heap_alloc_self w _, by simp, ?_, ?_, ?_, ?_⟩
  · have := hc.1; simp; omega
  · intro hw; have := hc.1; have := hm hw; subst this; simp; omega
  · intro off _; simp
  · rw [hc.1]
    simpa using hc.mono (Le.snoc ι _)

theorem at_new (ι : Map) (b sz : Nat) (h : List Blk) (hl : ι.length = h.length) : At (ι ++ [some (b, sz)]) h.length b sz := by
  unfold At; rw [← hl]; simp

end Sx
end Go.Proofs.YtmfejegpnfbajaaGreatDoor
