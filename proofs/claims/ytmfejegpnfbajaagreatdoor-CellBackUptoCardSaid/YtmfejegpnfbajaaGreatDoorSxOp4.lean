/-
  The abstract machine: maps, ranges, calls.
-/
import Derived.Test.YtmfejegpnfbajaaGreatDoorSxOp3
namespace Go.Proofs.YtmfejegpnfbajaaGreatDoor
namespace Sx

variable {ι : Map} {h : List Blk} {w : World} {ro : Nat}

theorem ERL.nil (ι : Map) : ERL ι [] [] := ⟨rfl, fun i a b h => by simp at h⟩
theorem ERL.cons {a b : MapEntry} {l m : List MapEntry} (h : ER ι a b) (r : ERL ι l m) : ERL ι (a :: l) (b :: m) :=
  ⟨by simp [r.1], fun i x y hx hy => by
    cases i with
    | zero => simp at hx hy; subst hx; subst hy; exact h
    | succ i => simp at hx hy; exact r.2 i x y hx hy⟩
theorem ERL.cases_cons {a : MapEntry} {l m : List MapEntry} (r : ERL ι (a :: l) m) : ∃ b k, m = b :: k ∧ ER ι a b ∧ ERL ι l k := by
  cases m with
  | nil => exact absurd r.1 (by simp)
  | cons b k => exact ⟨b, k, rfl, r.2 0 a b rfl rfl, by simpa using r.1, fun i x y hx hy => r.2 (i + 1) x y (by simpa using hx) (by simpa using hy)⟩
theorem ERL.cases_nil {m : List MapEntry} (r : ERL ι [] m) : m = [] := by
  cases m with
  | nil => rfl
  | cons b k => exact absurd r.1 (by simp)
theorem ERL.append {l l' m m' : List MapEntry} (h : ERL ι l l') (k : ERL ι m m') : ERL ι (l ++ m) (l' ++ m') := by
  induction l generalizing l' with
  | nil => rw [h.cases_nil]; exact k
  | cons a l ih => obtain ⟨b, t, rfl, h1, h2⟩ := h.cases_cons; exact .cons h1 (ih h2)
theorem ERL.filter {l l' : List MapEntry} (p : MapEntry → Bool) (hp : ∀ a b, ER ι a b → p a = p b) (h : ERL ι l l') : ERL ι (l.filter p) (l'.filter p) := by
  induction l generalizing l' with
  | nil => rw [h.cases_nil]; exact .nil ι
  | cons a l ih =>
    obtain ⟨b, t, rfl, h1, h2⟩ := h.cases_cons
    simp only [List.filter_cons, ← hp a b h1]
    split
    · exact .cons h1 (ih h2)
    · exact ih h2

/-- What a search finds. -/
def FR (ι : Map) (es es' : List MapEntry) : Option (Nat × Value) → Option (Nat × Value) → Prop
  | none, none => True
  | some (i, v), some (j, v') => i = j ∧ VR ι v v'
  | _, _ => False

theorem findNow_rel (kind : TypeDesc) (k : Value) (xs ys : List MapEntry) : ∀ (es es' : List MapEntry) (i : Nat) (r : Option (Option (Nat × Value))), Instr.findNow kind k es i = r → ERL ι es es' →
    (r = none ∧ Instr.findNow kind k es' i = none) ∨ ∃ a b, r = some a ∧ Instr.findNow kind k es' i = some b ∧ FR ι xs ys a b
  | [], es', i, r, hf, he => by
    rw [he.cases_nil]
    simp only [Instr.findNow] at hf ⊢
    exact .inr ⟨none, none, hf.symm, rfl, trivial⟩
  | e :: es, es', i, r, hf, he => by
    obtain ⟨e', t, rfl, h1, h2⟩ := he.cases_cons
    simp only [Instr.findNow] at hf ⊢
    rw [← h1.1]
    split at hf
    · rename_i hs; subst hf; exact .inr ⟨_, _, rfl, rfl, rfl, h1.2.2.2⟩
    · rename_i hs; exact findNow_rel kind k xs ys es t (i + 1) r hf h2
    · rename_i hs; exact .inl ⟨hf.symm, rfl⟩

theorem askA_rel (P : Program) (kt : TypeId) (k : Value) (xs ys : List MapEntry) (w : World) : ∀ (es es' : List MapEntry) (i : Nat) (r : Option (Nat × Value)), askA P kt k es i = some r → ERL ι es es' →
    ∃ b, (Instr.findAsking kt k es' i).run P w = .ok b w ∧ FR ι xs ys r b
  | [], es', i, r, hf, he => by
    rw [he.cases_nil]
    simp [askA] at hf
    subst hf
    exact ⟨none, rfl, trivial⟩
  | e :: es, es', i, r, hf, he => by
    obtain ⟨e', t, rfl, h1, h2⟩ := he.cases_cons
    simp only [askA, Option.bind_eq_bind] at hf
    cases hq : pureRun P (Op.equal kt k e.key) with
    | none => simp [hq] at hf
    | some b =>
      simp only [hq, Option.bind_some] at hf
      have hr := pureRun_run P w _ _ hq
      rw [h1.1] at hr
      simp only [Instr.findAsking, Sem.run_bind, hr, Result.andThen_ok]
      cases b with
      | true =>
        simp only [if_true, Option.some.injEq] at hf ⊢
        subst hf
        exact ⟨_, rfl, rfl, h1.2.2.2⟩
      | false =>
        simp only [Bool.false_eq_true, if_false] at hf ⊢
        exact askA_rel P kt k xs ys w es t (i + 1) r hf h2

theorem findA_run (P : Program) {kt : TypeId} {k : Value} {es es' : List MapEntry} {r : Option (Nat × Value)} (hf : findA P kt k es = some r) (he : ERL ι es es') (w : World) :
    ∃ b, (Instr.findKey kt k es').run P w = .ok b w ∧ FR ι es es' r b := by
  unfold findA at hf
  cases hu : P.underlying kt with
  | none => simp [hu] at hf
  | some kind =>
    simp only [hu, Option.bind_eq_bind, Option.bind_some] at hf
    unfold Instr.findKey
    simp only [Sem.run_bind, und_run hu, Result.andThen_ok]
    rcases findNow_rel (ι := ι) kind k es es' es es' 0 _ rfl he with ⟨h1, h2⟩ | ⟨a, b, h1, h2, h3⟩
    · rw [h1] at hf
      rw [h2]
      exact askA_rel P kt k es es' w es es' 0 r hf he
    · rw [h1] at hf
      rw [h2]
      simp at hf
      subst hf
      exact ⟨b, rfl, h3⟩

theorem keyOk_run (P : Program) {e : Bool} {kt : TypeId} {k k' : Value} (hk : keyOk P e kt k = true) (hx : VR ι k k') (w : World) : k = k' ∧ (Instr.checkKey e 10000 kt k).run P w = .ok () w := by
  simp only [keyOk, Bool.and_eq_true] at hk
  refine ⟨isFlat_eq hk.1 hx, ?_⟩
  cases hp : pureRun P (Instr.checkKey e 10000 kt k) with
  | none => simp [hp] at hk
  | some u => exact pureRun_run P w _ _ hp

theorem zeroV_run {P : Program} {t : TypeId} {z : Value} (hz : zeroV P t = some z) (ι : Map) (w : World) : (zeroValue t).run P w = .ok z w ∧ VR ι z z := by
  unfold zeroV at hz
  cases hi : P.info? t with
  | none => simp [hi] at hz
  | some i =>
    simp only [hi, Option.bind_eq_bind, Option.bind_some] at hz
    cases hv : i.zero with
    | none => simp [hv] at hz
    | some v =>
      simp only [hv, Option.bind_some] at hz
      split at hz
      · rename_i hf
        simp at hz
        subst hz
        exact ⟨zero_run hi hv w, isFlat_refl ι hf⟩
      · simp at hz

theorem ERL.get {l l' : List MapEntry} (h : ERL ι l l') {i : Nat} {a : MapEntry} (ha : l[i]? = some a) : ∃ b, l'[i]? = some b ∧ ER ι a b := by
  have hl : i < l'.length := h.1 ▸ (List.getElem?_eq_some_iff.1 ha).1
  exact ⟨l'[i], List.getElem?_eq_getElem hl, h.2 i a _ ha (List.getElem?_eq_getElem hl)⟩

theorem isEmpty_of {es es' : Array MapEntry} (h : ERL ι es.toList es'.toList) : es'.isEmpty = es.isEmpty := by
  have h1 : es.size = es'.size := by simpa using h.1
  simp [Array.isEmpty, h1]

/-- What a lookup does with the entries. -/
def lookS (kt et : TypeId) (k : Value) (ok : Bool) (es : Array MapEntry) : Sem Value := do
  Instr.checkKey es.isEmpty 10000 kt k
  let (v, b) ← match ← Instr.findKey kt k es.toList with
    | some (_, v) => pure (v, true)
    | none => pure (← zeroValue et, false)
  pure (if ok then .tuple #[v, .bool b] else v)

theorem lookE_run (P : Program) {kt et : TypeId} {k k' v : Value} {ok : Bool} {es es' : Array MapEntry} (hl : lookE P kt et k ok es = some v) (hes : ERL ι es.toList es'.toList) (hk : VR ι k k') (w : World) :
    ∃ v', (lookS kt et k' ok es').run P w = .ok v' w ∧ VR ι v v' := by
  unfold lookE at hl
  split at hl
  case isFalse => simp at hl
  rename_i hko
  obtain ⟨rfl, hck⟩ := keyOk_run P hko hk w
  rw [← isEmpty_of hes] at hck
  unfold lookS
  simp only [Sem.run_bind, hck, Result.andThen_ok]
  split at hl
  · rename_i i u hf
    simp at hl
    obtain ⟨b, hb1, hb2⟩ := findA_run P hf hes w
    match b, hb2 with
    | some (j, u'), hb2 =>
      obtain ⟨rfl, hu⟩ := hb2
      simp only [hb1, Result.andThen_ok, Sem.run_pure]
      refine ⟨_, rfl, ?_⟩
      rw [← hl]
      split
      · exact VRL.tuple (.cons hu (.cons (.bool _) (.nil ι)))
      · exact hu
  · rename_i hf
    obtain ⟨b, hb1, hb2⟩ := findA_run P hf hes w
    match b, hb2 with
    | none, _ =>
      split at hl
      · rename_i z hz
        simp at hl
        obtain ⟨z1, z2⟩ := zeroV_run hz ι w
        simp only [hb1, Result.andThen_ok, Sem.run_pure, z1, Sem.run_bind]
        refine ⟨_, rfl, ?_⟩
        rw [← hl]
        split
        · exact VRL.tuple (.cons z2 (.cons (.bool _) (.nil ι)))
        · exact z2
      · simp at hl
  · simp at hl

theorem lookupA_run (R : Rel ι h w) (P : Program) {t : TypeId} {x k x' k' v : Value} {ok : Bool} (hl : lookupA P h t x k ok = some v) (hx : VR ι x x') (hk : VR ι k k') :
    ∃ v', (Instr.lookup t x' k' ok).run P w = .ok v' w ∧ VR ι v v' := by
  unfold lookupA at hl
  split at hl
  · rename_i kt et hu
    cases hx
    obtain ⟨v', h1, h2⟩ := lookE_run P hl (.nil ι) hk w
    refine ⟨v', ?_, h2⟩
    rw [← h1]
    unfold Instr.lookup lookS
    simp only [Sem.run_bind, und_run hu, Result.andThen_ok, Sem.run_pure]
    rfl
  · rename_i kt et r hu
    split at hl
    · rename_i es clock hb
      cases hx with
      | @map _ b sz ha =>
        obtain ⟨o', h1, h2⟩ := R.blk _ _ b sz hb ha
        cases h2 with
        | @map _ es' _ hes =>
          obtain ⟨v', g1, g2⟩ := lookE_run P hl hes hk w
          refine ⟨v', ?_, g2⟩
          rw [← g1]
          have : (getObj b).run P w = .ok (.map es' clock) w := by simp [getObj, Sem.run, h1]
          unfold Instr.lookup lookS
          simp only [Sem.run_bind, und_run hu, Result.andThen_ok, Sem.run_pure, this]
          rfl
    · simp at hl
  · simp at hl

theorem setObj_run {P : Program} {b : Nat} {o o' : Obj} (h1 : w.heap[b]? = some o) (hc : ∀ c e f, o ≠ .cells c e f) : (setObj b o').run P w = .ok () { w with heap := w.heap.setIfInBounds b o' } := by
  cases o <;> first | (simp [setObj, Sem.run, h1]; done) | exact absurd rfl (hc _ _ _)

theorem setObj_rel (R : Rel ι h w) {r b sz : Nat} {o o2 : Obj} {ob : Obj} (hb : h[r]? = some (.obj o)) (ha : At ι r b sz) (h1 : w.heap[b]? = some ob) (hr : ro ≤ r) (ho : OR ι o o2) (o3 : Obj) (ho3 : OR ι o3 o2) :
    Rel ι (h.set r (.obj o3)) { w with heap := w.heap.setIfInBounds b o2 } ∧ Step ro ι w ι { w with heap := w.heap.setIfInBounds b o2 } := by
  have hlt : b < w.heap.size := (Array.getElem?_eq_some_iff.1 h1).1
  have hoth : ∀ c, c ≠ b → (w.heap.setIfInBounds b o2)[c]? = w.heap[c]? := fun c hc => by
    rw [Array.getElem?_setIfInBounds_ne (fun e => hc e.symm)]
  refine ⟨R.turn hb rfl ha ⟨o2, ?_, ho3⟩ hoth, Step.turn hr ha rfl rfl rfl (by simp) hoth⟩
  simp [hlt]

theorem setObj_rel' (R : Rel ι h w) {r b sz : Nat} {o : Obj} {ob : Obj} (hb : h[r]? = some (.obj o)) (ha : At ι r b sz) (h1 : w.heap[b]? = some ob) (hr : ro ≤ r) {o2 o3 : Obj} (ho3 : OR ι o3 o2) :
    Rel ι (h.set r (.obj o3)) { w with heap := w.heap.setIfInBounds b o2 } ∧ Step ro ι w ι { w with heap := w.heap.setIfInBounds b o2 } := by
  have hlt : b < w.heap.size := (Array.getElem?_eq_some_iff.1 h1).1
  have hoth : ∀ c, c ≠ b → (w.heap.setIfInBounds b o2)[c]? = w.heap[c]? := fun c hc => by
    rw [Array.getElem?_setIfInBounds_ne (fun e => hc e.symm)]
  refine ⟨R.turn hb rfl ha ⟨o2, ?_, ho3⟩ hoth, Step.turn hr ha rfl rfl rfl (by simp) hoth⟩
  simp [hlt]

theorem mapUpdateA_run (R : Rel ι h w) (P : Program) {t : TypeId} {m k v m' k' v' : Value} {h' : List Blk} (hl : mapUpdateA P ro h t m k v = some h') (hm : VR ι m m') (hk : VR ι k k') (hv : VR ι v v') :
    ∃ w', (Instr.mapUpdate t m' k' v').run P w = .ok () w' ∧ Rel ι h' w' ∧ Step ro ι w ι w' := by
  unfold mapUpdateA at hl
  split at hl
  case h_2 => simp at hl
  rename_i kt et r hu
  split at hl
  case h_2 => simp at hl
  rename_i es clock hb
  split at hl
  case isFalse => simp at hl
  rename_i hc
  simp only [Bool.and_eq_true, decide_eq_true_eq] at hc
  obtain ⟨hko, hr⟩ := hc
  obtain ⟨rfl, hck⟩ := keyOk_run P hko hk w
  have hkf : isFlat k = true := by simp only [keyOk, Bool.and_eq_true] at hko; exact hko.1
  cases hm with
  | @map _ b sz ha =>
    obtain ⟨o', h1, h2⟩ := R.blk _ _ b sz hb ha
    cases h2 with
    | @map _ es' _ hes =>
      have hget : (getObj b).run P w = .ok (.map es' clock) w := by simp [getObj, Sem.run, h1]
      have hset : ∀ o2, (setObj b o2).run P w = .ok () { w with heap := w.heap.setIfInBounds b o2 } := fun o2 => setObj_run h1 (by simp)
      split at hl
      · rename_i i u hf
        split at hl
        case isFalse => simp at hl
        rename_i hsame
        simp only [Option.some.injEq] at hl
        obtain ⟨c, hb1, hb2⟩ := findA_run P hf hes w
        match c, hb2 with
        | some (j, u'), hb2 =>
          obtain ⟨rfl, _⟩ := hb2
          have hkey : ((es'[i]?).map (·.key)).getD k = ((es[i]?).map (·.key)).getD k := by
            cases he : es[i]? with
            | none =>
              have : es'[i]? = none := by
                rw [Array.getElem?_eq_none_iff] at he ⊢
                have := hes.1
                simp at this
                omega
              rw [this]
            | some e =>
              obtain ⟨e', g1, g2⟩ := hes.get (i := i) (a := e) (by simpa using he)
              have : es'[i]? = some e' := by simpa using g1
              rw [this]
              simp [g2.1]
          have hstay : (Instr.keyThatStays (((es'[i]?).map (·.key)).getD k) k).run P w = .ok k w := by
            rw [hkey]
            simp [Instr.keyThatStays, hsame]
          have hmod : ERL ι (es.modify i fun e => { e with key := k, val := v }).toList (es'.modify i fun e => { e with key := k, val := v' }).toList := by
            refine ⟨by simpa using hes.1, ?_⟩
            intro j a b' ha' hb'
            simp only [Array.toList_modify, List.getElem?_modify] at ha' hb'
            cases he : es.toList[j]? with
            | none => simp [he] at ha'
            | some e =>
              obtain ⟨e', g1, g2⟩ := hes.get he
              rw [he] at ha'
              rw [g1] at hb'
              by_cases hij : i = j
              · simp [hij] at ha' hb'
                subst ha'; subst hb'
                exact ⟨rfl, hkf, g2.2.2.1, hv⟩
              · simp [hij] at ha' hb'
                subst ha'; subst hb'
                exact g2
          have := setObj_rel' (ro := ro) R hb ha h1 hr (.map clock hmod)
          rw [hl] at this
          refine ⟨_, ?_, this.1, this.2⟩
          unfold Instr.mapUpdate
          simp only [Sem.run_bind, und_run hu, Result.andThen_ok, hget, hck, hb1, hstay, hset]
      · rename_i hf
        simp only [Option.some.injEq] at hl
        obtain ⟨c, hb1, hb2⟩ := findA_run P hf hes w
        match c, hb2 with
        | none, _ =>
          have hpush : ERL ι (es.push { key := k, val := v, born := clock }).toList (es'.push { key := k, val := v', born := clock }).toList := by
            simp only [Array.toList_push]
            exact hes.append (.cons ⟨rfl, hkf, rfl, hv⟩ (.nil ι))
          have := setObj_rel' (ro := ro) R hb ha h1 hr (.map (clock + 1) hpush)
          rw [hl] at this
          refine ⟨_, ?_, this.1, this.2⟩
          unfold Instr.mapUpdate
          simp only [Sem.run_bind, und_run hu, Result.andThen_ok, hget, hck, hb1, hset]
      · simp at hl

/-! ### Ranges -/

theorem newObj_rel (R : Rel ι h w) {o o' : Obj} (ho : OR ι o o') : Rel (ι ++ [some (w.heap.size, 0)]) (h ++ [.obj o]) (w.alloc o') :=
  R.alloc o' (.obj o) 0 ⟨o', heap_alloc_self w o', ho.mono (Le.snoc ι _)⟩

theorem rangeA_run (R : Rel ι h w) (P : Program) (hro : ro ≤ ι.length) {t : TypeId} {x x' v : Value} {h' : List Blk} (hl : rangeA P h t x = some (v, h')) (hx : VR ι x x') :
    Got ro ι w v h' ((Instr.range t x').run P w) := by
  have fin : ∀ (o o' : Obj), OR ι o o' → (Instr.range t x').run P w = .ok (.pointer (some ⟨w.heap.size, 0, none⟩)) (w.alloc o') → Got ro ι w (.pointer (some ⟨h.length, 0, none⟩)) (h ++ [.obj o]) ((Instr.range t x').run P w) := by
    intro o o' ho hr
    rw [hr]
    exact ⟨_, _, _, rfl, newObj_rel R ho, Step.alloc ro ι w o' 0 hro, .ptr 0 (at_new ι _ _ h R.len)⟩
  unfold rangeA at hl
  split at hl
  · rename_i s hu
    simp only [Option.some.injEq, Prod.mk.injEq] at hl
    obtain ⟨rfl, rfl⟩ := hl
    cases hx
    refine fin _ _ (.str s 0) ?_
    simp only [Instr.range, Sem.run_bind, und_run hu, Result.andThen_ok, Sem.run_pure, run_newObj, World.alloc_eq]
  · rename_i k e hu
    simp only [Option.some.injEq, Prod.mk.injEq] at hl
    obtain ⟨rfl, rfl⟩ := hl
    cases hx
    refine fin _ _ (.iterNil 0 #[] 0) ?_
    simp only [Instr.range, Sem.run_bind, und_run hu, Result.andThen_ok, Sem.run_pure, run_newObj, World.alloc_eq]
  · rename_i k e m hu
    split at hl
    · rename_i es clock hb
      simp only [Option.some.injEq, Prod.mk.injEq] at hl
      obtain ⟨rfl, rfl⟩ := hl
      cases hx with
      | @map _ b sz ha =>
        obtain ⟨o', h1, h2⟩ := R.blk _ _ b sz hb ha
        cases h2 with
        | @map _ es' _ hes =>
          have hget : (getObj b).run P w = .ok (.map es' clock) w := by simp [getObj, Sem.run, h1]
          refine fin _ _ (.iter clock #[] clock ha) ?_
          simp only [Instr.range, Sem.run_bind, und_run hu, Result.andThen_ok, Sem.run_pure, run_newObj, World.alloc_eq, hget]
    · simp at hl
  · simp at hl

/-- The candidates, as a list. -/
theorem candA_list (es : Array MapEntry) (since : Nat) (seen : Array Nat) : (candA es since seen).toList =
    (if ((es.toList.filter fun e => !seen.contains e.born).filter fun e => e.born < since).isEmpty then [none] else []) ++
      (((es.toList.filter fun e => !seen.contains e.born).filter fun e => e.born < since) ++ ((es.toList.filter fun e => !seen.contains e.born).filter fun e => e.born ≥ since)).map some := by
  unfold candA
  simp only [Array.toList_append, Array.toList_map, Array.toList_filter]
  congr 1
  have : ((es.filter fun e => !seen.contains e.born).filter fun e => decide (e.born < since)).isEmpty = ((es.toList.filter fun e => !seen.contains e.born).filter fun e => decide (e.born < since)).isEmpty := by
    rw [← Array.toList_filter, ← Array.toList_filter, Array.isEmpty_toList]
  rw [this]
  split <;> rfl

theorem candA_rel {es es' : Array MapEntry} (hes : ERL ι es.toList es'.toList) (since : Nat) (seen : Array Nat) :
    (candA es since seen).size = (candA es' since seen).size ∧ ∀ (i : Nat) (a b : Option MapEntry), (candA es since seen)[i]? = some a → (candA es' since seen)[i]? = some b →
      (a = none ∧ b = none) ∨ ∃ x y, a = some x ∧ b = some y ∧ ER ι x y := by
  have hleft : ERL ι (es.toList.filter fun e => !seen.contains e.born) (es'.toList.filter fun e => !seen.contains e.born) := hes.filter _ fun a b r => by simp only [r.2.2.1]
  have hold : ERL ι ((es.toList.filter fun e => !seen.contains e.born).filter fun e => e.born < since) ((es'.toList.filter fun e => !seen.contains e.born).filter fun e => e.born < since) := hleft.filter _ fun a b r => by simp only [r.2.2.1]
  have hnew : ERL ι ((es.toList.filter fun e => !seen.contains e.born).filter fun e => e.born ≥ since) ((es'.toList.filter fun e => !seen.contains e.born).filter fun e => e.born ≥ since) := hleft.filter _ fun a b r => by simp only [r.2.2.1]
  have hall := hold.append hnew
  have hemp : ((es.toList.filter fun e => !seen.contains e.born).filter fun e => decide (e.born < since)).isEmpty = ((es'.toList.filter fun e => !seen.contains e.born).filter fun e => decide (e.born < since)).isEmpty := by
    have := hold.1
    rw [Bool.eq_iff_iff, List.isEmpty_iff_length_eq_zero, List.isEmpty_iff_length_eq_zero, this]
  have l1 := candA_list es since seen
  have l2 := candA_list es' since seen
  rw [← hemp] at l2
  generalize ((es.toList.filter fun e => !seen.contains e.born).filter fun e => decide (e.born < since)).isEmpty = t at l1 l2
  have hsome : ∀ (L L' : List MapEntry), ERL ι L L' → (L.map some).length = (L'.map some).length ∧ ∀ (i : Nat) (a b : Option MapEntry), (L.map some)[i]? = some a → (L'.map some)[i]? = some b → (a = none ∧ b = none) ∨ ∃ x y, a = some x ∧ b = some y ∧ ER ι x y := by
    intro L L' hL
    refine ⟨by simp [hL.1], ?_⟩
    intro i a b ha hb
    rw [List.getElem?_map] at ha hb
    cases hx : L[i]? with
    | none => simp [hx] at ha
    | some x =>
      obtain ⟨y, hy, hr⟩ := hL.get hx
      simp [hx] at ha
      simp [hy] at hb
      exact .inr ⟨x, y, ha.symm, hb.symm, hr⟩
  obtain ⟨s1, s2⟩ := hsome _ _ hall
  have e1 : (candA es since seen).size = (candA es since seen).toList.length := by simp
  have e2 : (candA es' since seen).size = (candA es' since seen).toList.length := by simp
  refine ⟨by rw [e1, e2, l1, l2, List.length_append, List.length_append, s1], ?_⟩
  intro i a b ha hb
  rw [← Array.getElem?_toList, l1] at ha
  rw [← Array.getElem?_toList, l2] at hb
  cases t with
  | false => simp only [Bool.false_eq_true, if_false, List.nil_append] at ha hb; exact s2 i a b ha hb
  | true =>
    simp only [if_true, List.singleton_append] at ha hb
    cases i with
    | zero => simp at ha hb; exact .inl ⟨ha.symm, hb.symm⟩
    | succ i => simp only [List.getElem?_cons_succ] at ha hb; exact s2 i a b ha hb

theorem nextA_run (R : Rel ι h w) (P : Program) {x x' v : Value} {isS : Bool} {h' : List Blk} (hl : nextA ro h x isS = some (v, h')) (hx : VR ι x x') (ty : TypeId) :
    Got ro ι w v h' ((Instr.next x' isS ty).run P w) := by
  unfold nextA at hl
  split at hl
  case h_2 => simp at hl
  rename_i r sp
  obtain ⟨b, sz, hs, ha, rfl⟩ := hx.ptr_inv
  simp only at hs ha; subst hs
  split at hl
  · simp at hl
  rename_i hr
  split at hl
  · rename_i s pos hb
    obtain ⟨o', h1, h2⟩ := R.blk _ _ b sz hb ha
    cases h2
    have hget : (getObj b).run P w = .ok (.stringIter s pos) w := by simp [getObj, Sem.run, h1]
    have hset : ∀ o2, (setObj b o2).run P w = .ok () { w with heap := w.heap.setIfInBounds b o2 } := fun o2 => setObj_run h1 (by simp)
    split at hl
    · rename_i hp
      simp only [Option.some.injEq, Prod.mk.injEq] at hl
      obtain ⟨rfl, rfl⟩ := hl
      have := setObj_rel' (ro := ro) R hb ha h1 (by omega) (.str s (pos + (Utf8.decode s pos).2))
      refine ⟨_, _, ι, ?_, this.1, this.2, VRL.tuple (.cons (.bool _) (.cons (.int _ _) (.cons (.int _ _) (.nil ι))))⟩
      unfold Instr.next
      simp only [Sem.run_bind, hget, Result.andThen_ok, hp, if_true, hset, Sem.run_pure]
      rfl
    · rename_i hp
      simp only [Option.some.injEq, Prod.mk.injEq] at hl
      obtain ⟨rfl, rfl⟩ := hl
      have : (Instr.next (.pointer (some ⟨b, 0, none⟩)) true ty).run P w = .ok (.tuple #[.bool false]) w := by
        unfold Instr.next
        simp only [Sem.run_bind, hget, Result.andThen_ok, hp, if_false, Sem.run_pure]
      rw [this]
      exact Got.same R (VRL.tuple (.cons (.bool _) (.nil ι)))
  · rename_i a1 a2 a3 hb
    simp only [Option.some.injEq, Prod.mk.injEq] at hl
    obtain ⟨rfl, rfl⟩ := hl
    obtain ⟨o', h1, h2⟩ := R.blk _ _ b sz hb ha
    cases h2
    have hget : (getObj b).run P w = .ok (.mapIter none a1 a2 a3) w := by simp [getObj, Sem.run, h1]
    have : (Instr.next (.pointer (some ⟨b, 0, none⟩)) false ty).run P w = .ok (.tuple #[.bool false]) w := by
      unfold Instr.next
      simp only [Sem.run_bind, hget, Result.andThen_ok, Sem.run_pure]
    rw [this]
    exact Got.same R (VRL.tuple (.cons (.bool _) (.nil ι)))
  · rename_i m since seen last hb
    obtain ⟨o', h1, h2⟩ := R.blk _ _ b sz hb ha
    cases h2 with
    | @iter _ bm szm _ _ _ ham =>
      have hget : (getObj b).run P w = .ok (.mapIter (some bm) since seen last) w := by simp [getObj, Sem.run, h1]
      have hset : ∀ o2, (setObj b o2).run P w = .ok () { w with heap := w.heap.setIfInBounds b o2 } := fun o2 => setObj_run h1 (by simp)
      split at hl
      · rename_i es clock hbm
        obtain ⟨om, k1, k2⟩ := R.blk _ _ bm szm hbm ham
        cases k2 with
        | @map _ es' _ hes =>
          have hgetm : (getObj bm).run P w = .ok (.map es' clock) w := by simp [getObj, Sem.run, k1]
          split at hl
          · simp at hl
          rename_i hcond
          have hcond' : ¬ ((!seen.isEmpty && !es'.isEmpty && es'.all (·.born ≥ last)) = true) := by
            intro hh
            apply hcond
            rw [isEmpty_of hes] at hh
            have hall : es'.all (fun e => decide (e.born ≥ last)) = es.all (fun e => decide (e.born ≥ last)) := by
              rw [← Array.all_toList, ← Array.all_toList]
              have key : ∀ (l l' : List MapEntry), ERL ι l l' → l'.all (fun e => decide (e.born ≥ last)) = l.all (fun e => decide (e.born ≥ last)) := by
                intro l
                induction l with
                | nil => intro l' hL; rw [hL.cases_nil]
                | cons a l ih => intro l' hL; obtain ⟨b, t, rfl, g1, g2⟩ := hL.cases_cons; simp only [List.all_cons, ih t g2, g1.2.2.1]
              exact key _ _ hes
            rw [hall] at hh
            exact hh
          dsimp only at hl
          split at hl
          · simp at hl
          rename_i hsz
          simp only [ne_eq, Decidable.not_not] at hsz
          obtain ⟨c1, c2⟩ := candA_rel hes since seen
          have hcs : (candA es' since seen).size = 1 := by omega
          obtain ⟨cb, hcb⟩ : ∃ cb, (candA es' since seen)[0]? = some cb := ⟨_, Array.getElem?_eq_getElem (by omega)⟩
          have hch : (choose (.mapNext (candA es' since seen).size)).run P w = .ok 0 w := by
            rw [hcs]; rfl
          have hrun : (Instr.next (.pointer (some ⟨b, 0, none⟩)) false ty).run P w = (match cb with
              | some e => Result.ok (.tuple #[.bool true, e.key, e.val]) { w with heap := w.heap.setIfInBounds b (.mapIter (some bm) since (seen.push e.born) clock) }
              | none => .ok (.tuple #[.bool false]) w) := by
            unfold Instr.next
            simp only [Sem.run_bind, hget, Result.andThen_ok, hgetm, hcond', if_false, Sem.run_pure, Bool.false_eq_true]
            have hch' := hch
            unfold candA at hch' hcb
            simp only at hch' hcb
            rw [hch']
            simp only [Result.andThen_ok, hcb]
            cases cb with
            | none => rfl
            | some e => simp only [Sem.run_bind, hset, Result.andThen_ok, Sem.run_pure]
          rw [hrun]
          split at hl
          · rename_i e hce
            simp only [Option.some.injEq, Prod.mk.injEq] at hl
            obtain ⟨rfl, rfl⟩ := hl
            rcases c2 0 _ _ hce hcb with ⟨h0, _⟩ | ⟨p, q, hp, hq, hr2⟩
            · simp at h0
            · simp at hp; subst hp; subst hq
              have := setObj_rel' (ro := ro) R hb ha h1 (by omega) (.iter since (seen.push e.born) clock ham)
              obtain ⟨q1, q2, q3, q4⟩ := hr2
              refine ⟨_, _, ι, rfl, ?_, ?_, VRL.tuple (.cons (.bool _) (.cons (q1 ▸ isFlat_refl ι q2) (.cons q4 (.nil ι))))⟩
              · rw [← q3]; exact this.1
              · rw [← q3]; exact this.2
          · rename_i hce
            simp only [Option.some.injEq, Prod.mk.injEq] at hl
            obtain ⟨rfl, rfl⟩ := hl
            rcases c2 0 _ _ hce hcb with ⟨_, h0⟩ | ⟨p, q, hp, hq, hr2⟩
            · subst h0
              exact Got.same R (VRL.tuple (.cons (.bool _) (.nil ι)))
            · simp at hp
          · simp at hl
      · simp at hl
  · simp at hl

theorem entryA_run (R : Rel ι h w) (P : Program) {x x' v : Value} (hl : entryA h x = some v) (hx : VR ι x x') :
    ∃ v', (Instr.entry x').run P w = .ok v' w ∧ VR ι v v' := by
  unfold entryA at hl
  split at hl
  case h_2 => simp at hl
  rename_i r sp
  obtain ⟨b, sz, hs, ha, rfl⟩ := hx.ptr_inv
  simp only at hs ha; subst hs
  split at hl
  case h_2 => simp at hl
  rename_i m since seen stepped hb
  obtain ⟨o', h1, h2⟩ := R.blk _ _ b sz hb ha
  cases h2 with
  | @iter _ bm szm _ _ _ ham =>
    have hget : (getObj b).run P w = .ok (.mapIter (some bm) since seen stepped) w := by simp [getObj, Sem.run, h1]
    split at hl
    case h_2 => simp at hl
    rename_i stamp es clock hst hbm
    obtain ⟨om, k1, k2⟩ := R.blk _ _ bm szm hbm ham
    cases k2 with
    | @map _ es' _ hes =>
      have hgetm : (getObj bm).run P w = .ok (.map es' clock) w := by simp [getObj, Sem.run, k1]
      split at hl
      · simp at hl
      rename_i hck
      split at hl
      · rename_i e he
        simp at hl
        have key : ∀ (l l' : List MapEntry), ERL ι l l' → l.find? (·.born == stamp) = some e → ∃ e', l'.find? (·.born == stamp) = some e' ∧ ER ι e e' := by
          intro l
          induction l with
          | nil => intro l' _ hf; simp at hf
          | cons a l ih =>
            intro l' hL hf
            obtain ⟨b, t, rfl, g1, g2⟩ := hL.cases_cons
            simp only [List.find?_cons] at hf ⊢
            rw [← g1.2.2.1]
            split at hf
            · simp at hf; subst hf; exact ⟨b, rfl, g1⟩
            · exact ih t g2 hf
        obtain ⟨e', f1, f2⟩ := key _ _ hes (by simpa using he)
        have f1' : es'.find? (·.born == stamp) = some e' := by simpa using f1
        refine ⟨.tuple #[e'.key, e'.val], ?_, ?_⟩
        · unfold Instr.entry
          simp only [Sem.run_bind, hget, Result.andThen_ok, hst, hgetm, hck, Bool.false_eq_true, if_false, f1', Sem.run_pure]
        · rw [← hl]
          exact VRL.tuple (.cons (f2.1 ▸ isFlat_refl ι f2.2.1) (.cons f2.2.2.2 (.nil ι)))
      · simp at hl

end Sx
end Go.Proofs.YtmfejegpnfbajaaGreatDoor
