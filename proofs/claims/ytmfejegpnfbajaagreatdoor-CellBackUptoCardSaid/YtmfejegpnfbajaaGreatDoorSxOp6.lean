/-
  The abstract machine: one operation.
-/
import Derived.Test.YtmfejegpnfbajaaGreatDoorSxOp5
namespace Go.Proofs.YtmfejegpnfbajaaGreatDoor
namespace Sx

variable {ι : Map} {h : List Blk} {w : World} {ro : Nat}

theorem parts_rel {ps : Array (Nat × Operand)} {ρ ρ' : Operand → Value} (hρ : ∀ x ∈ (ps.toList.map (·.2)), VR ι (ρ x) (ρ' x)) :
    PRL ι (ps.toList.map fun p => (p.1, ρ p.2)) (ps.map fun (i, x) => (i, ρ' x)).toList := by
  rw [Array.toList_map]
  refine ⟨by simp, ?_⟩
  intro i a b ha hb
  rw [List.getElem?_map] at ha hb
  cases hp : ps.toList[i]? with
  | none => simp [hp] at ha
  | some p =>
    simp [hp] at ha hb
    subst ha; subst hb
    exact ⟨rfl, hρ _ (List.mem_map.2 ⟨p, List.mem_of_getElem? hp, rfl⟩)⟩

theorem args_rel {args : Array Operand} {ρ ρ' : Operand → Value} (hρ : ∀ x ∈ args.toList, VR ι (ρ x) (ρ' x)) : VRL ι (args.map ρ).toList (args.map ρ').toList := by
  rw [Array.toList_map, Array.toList_map]
  exact VRL.of_map _ _ _ hρ

theorem opt_rel {x : Option Operand} {ρ ρ' : Operand → Value} (hρ : ∀ y, x = some y → VR ι (ρ y) (ρ' y)) : (∀ v v', x.map ρ = some v → x.map ρ' = some v' → VR ι v v') ∧ (x.map ρ).isSome = (x.map ρ').isSome := by
  cases x with
  | none => exact ⟨fun v v' h => by simp at h, rfl⟩
  | some y => exact ⟨fun v v' h1 h2 => by simp at h1 h2; subst h1; subst h2; exact hρ y rfl, rfl⟩

theorem exec_v (P : Program) (s : Sem Value) (w : World) : ((do pure (.value (← s))) : Sem Next).run P w = (s.run P w).andThen fun v w' => .ok (.value v) w' := by simp

set_option maxHeartbeats 1000000 in
theorem opA_run {X : Ctx} (C : Ok X) (R : Rel ι h w) (hro : X.ro ≤ ι.length) {ρ ρ' : Operand → Value} {o : Oper} (hρ : ∀ x ∈ o.op.operands.toList, VR ι (ρ x) (ρ' x)) {r : Res} {h' : List Blk} (hl : opA X ρ o h = some (r, h')) :
    Came X.ro ι w r h' ((execOp ρ' o).run X.P w) := by
  obtain ⟨dst, op, type, pos, after, guard⟩ := o
  have flatCase : ∀ {q : Oper}, q.op = op → (∀ cs b, op ≠ .select cs b) → ∀ {r}, flatOp X.P ρ q = some r → Came X.ro ι w r h ((execOp ρ' q).run X.P w) := by
    intro q hq hs r hf
    exact flatOp_run R X.P (by rw [hq]; exact hs) (by rw [hq]; exact hρ) hf
  cases op with
  | move x =>
    simp only [opA, Option.some.injEq, Prod.mk.injEq] at hl
    obtain ⟨rfl, rfl⟩ := hl
    exact came_value R (hρ x (by simp [Op.operands]))
  | assign x =>
    simp only [opA, Option.some.injEq, Prod.mk.injEq] at hl
    obtain ⟨rfl, rfl⟩ := hl
    exact came_value R (hρ x (by simp [Op.operands]))
  | pick c a b =>
    simp only [opA] at hl
    split at hl
    · rename_i t ht
      simp only [Option.some.injEq, Prod.mk.injEq] at hl
      obtain ⟨rfl, rfl⟩ := hl
      have hc := hρ c (by simp [Op.operands])
      rw [ht] at hc
      have hc' : ρ' c = .bool t := by cases hh : ρ' c <;> rw [hh] at hc <;> cases hc; rfl
      have : (execOp ρ' ⟨dst, .pick c a b, type, pos, after, guard⟩).run X.P w = .ok (.value (if t then ρ' a else ρ' b)) w := by
        simp only [execOp, hc', asBool, Sem.run_bind, Sem.run_pure, Result.andThen_ok]
      rw [this]
      refine came_value R ?_
      cases t
      · exact hρ b (by simp [Op.operands])
      · exact hρ a (by simp [Op.operands])
    · simp at hl
  | alloc t =>
    simp only [opA, Option.bind_eq_bind] at hl
    cases hz : zeroT X.P t with
    | none => simp [hz] at hl
    | some z =>
      simp only [hz, Option.bind_some, Option.some.injEq, Prod.mk.injEq] at hl
      obtain ⟨rfl, rfl⟩ := hl
      exact Got.came (P := X.P) (s := Instr.alloc t true (.tuple #[])) (alloc_run R X.P hro hz _)
  | box t x =>
    simp only [opA, Option.some.injEq, Prod.mk.injEq] at hl
    obtain ⟨rfl, rfl⟩ := hl
    exact Got.came (P := X.P) (s := Instr.box t (ρ' x)) (box_run R X.P hro t (hρ x (by simp [Op.operands])))
  | build t ps =>
    simp only [opA] at hl
    obtain ⟨u, h1, rfl, rfl⟩ := quietV_inv hl
    exact came_of (P := X.P) R (buildA_run X.P h1 (parts_rel (by simpa [Op.operands] using hρ)) w)
  | buildSlice t n ps =>
    simp only [opA] at hl
    obtain ⟨u, h1, rfl⟩ := newV_inv hl
    exact Got.came (P := X.P) (buildSliceA_run R X.P hro h1 (parts_rel (by simpa [Op.operands] using hρ)))
  | insert t m k v =>
    simp only [opA] at hl
    obtain ⟨h1, rfl⟩ := newU_inv hl
    exact came_unit (P := X.P) (mapUpdateA_run R X.P h1 (hρ m (by simp [Op.operands])) (hρ k (by simp [Op.operands])) (hρ v (by simp [Op.operands])))
  | load t x =>
    simp only [opA] at hl
    obtain ⟨u, h1, rfl, rfl⟩ := quietV_inv hl
    obtain ⟨a', v', e1, e2, e3⟩ := loadA_run R X.P h1 (hρ x (by simp [Op.operands]))
    refine came_of (P := X.P) (s := Instr.loadAt t (ρ' x)) R ⟨v', ?_, e3⟩
    simp [Instr.loadAt, e1, Instr.sureAddr, e2]
  | store t a v =>
    simp only [opA] at hl
    obtain ⟨h1, rfl⟩ := newU_inv hl
    obtain ⟨a', w', e1, e2, e3, e4⟩ := storeA_run R X.P h1 (hρ a (by simp [Op.operands])) (hρ v (by simp [Op.operands]))
    refine came_unit (P := X.P) (s := Instr.storeAt t (ρ' a) (ρ' v)) ⟨w', ?_, e3, e4⟩
    simp [Instr.storeAt, e1, Instr.sureAddr, e2]
  | nilCheck x =>
    simp only [opA] at hl
    have hx := hρ x (by simp [Op.operands])
    split at hl
    · rename_i a he
      simp only [Option.some.injEq, Prod.mk.injEq] at hl
      obtain ⟨rfl, rfl⟩ := hl
      rw [he] at hx
      obtain ⟨b, sz, _, _, e⟩ := hx.ptr_inv
      have : (execOp ρ' ⟨dst, .nilCheck x, type, pos, after, guard⟩).run X.P w = .ok (.value (ρ' x)) w := by simp only [execOp, e]; rfl
      rw [this]
      exact came_value R hx
    · rename_i t v he
      simp only [Option.some.injEq, Prod.mk.injEq] at hl
      obtain ⟨rfl, rfl⟩ := hl
      rw [he] at hx
      have hx' : ∃ v', ρ' x = .iface t v' := by cases hh : ρ' x <;> rw [hh] at hx <;> cases hx; exact ⟨_, rfl⟩
      obtain ⟨v', e⟩ := hx'
      have : (execOp ρ' ⟨dst, .nilCheck x, type, pos, after, guard⟩).run X.P w = .ok (.value (ρ' x)) w := by simp only [execOp, e]; rfl
      rw [this]
      exact came_value R hx
    · rename_i f fs cs he
      simp only [Option.some.injEq, Prod.mk.injEq] at hl
      obtain ⟨rfl, rfl⟩ := hl
      rw [he] at hx
      have hx' : ∃ a b, ρ' x = .func (.func f) a b := by cases hh : ρ' x <;> rw [hh] at hx <;> cases hx; exact ⟨_, _, rfl⟩
      obtain ⟨a, b, e⟩ := hx'
      have : (execOp ρ' ⟨dst, .nilCheck x, type, pos, after, guard⟩).run X.P w = .ok (.value (ρ' x)) w := by simp only [execOp, e]; rfl
      rw [this]
      exact came_value R hx
    · rename_i t p f q fs cs he
      simp only [Option.some.injEq, Prod.mk.injEq] at hl
      obtain ⟨rfl, rfl⟩ := hl
      rw [he] at hx
      have hx' : ∃ a b, ρ' x = .func (.via t p f q) a b := by cases hh : ρ' x <;> rw [hh] at hx <;> cases hx; exact ⟨_, _, rfl⟩
      obtain ⟨a, b, e⟩ := hx'
      have : (execOp ρ' ⟨dst, .nilCheck x, type, pos, after, guard⟩).run X.P w = .ok (.value (ρ' x)) w := by simp only [execOp, e]; rfl
      rw [this]
      exact came_value R hx
    · simp at hl
  | binOp op t x y yt =>
    simp only [opA] at hl
    split at hl
    · rename_i r' hf
      simp only [Option.some.injEq, Prod.mk.injEq] at hl
      obtain ⟨rfl, rfl⟩ := hl
      exact flatCase rfl (by simp) hf
    · obtain ⟨u, h1, rfl, rfl⟩ := quietV_inv hl
      exact came_of (P := X.P) R (binA_run R X.P h1 (hρ x (by simp [Op.operands])) (hρ y (by simp [Op.operands])))
  | unOp op t x =>
    simp only [opA, Option.map_eq_some_iff, Prod.mk.injEq] at hl
    obtain ⟨r', hf, rfl, rfl⟩ := hl
    exact flatCase rfl (by simp) hf
  | index t x i =>
    simp only [opA, Option.map_eq_some_iff, Prod.mk.injEq] at hl
    obtain ⟨r', hf, rfl, rfl⟩ := hl
    exact flatCase rfl (by simp) hf
  | convert s d x =>
    simp only [opA] at hl
    split at hl
    · rename_i r' hf
      simp only [Option.some.injEq, Prod.mk.injEq] at hl
      obtain ⟨rfl, rfl⟩ := hl
      exact flatCase rfl (by simp) hf
    · obtain ⟨u, h1, rfl⟩ := newV_inv hl
      exact Got.came (P := X.P) (convertA_run R X.P hro h1 (hρ x (by simp [Op.operands])))
  | makeInterface t x =>
    simp only [opA] at hl
    split at hl
    · simp at hl
    · rename_i d hni hu
      simp only [Option.some.injEq, Prod.mk.injEq] at hl
      obtain ⟨rfl, rfl⟩ := hl
      refine came_of (P := X.P) (s := Instr.makeInterface t (ρ' x)) R ⟨.iface t (ρ' x), ?_, .iface t (hρ x (by simp [Op.operands]))⟩
      simp only [Instr.makeInterface, Sem.run_bind, und_run hu, Result.andThen_ok]
      cases d <;> first | (exfalso; exact hni _ rfl) | rfl
    · simp at hl
  | makeFunc fn first captured =>
    simp only [opA] at hl
    split at hl
    · rename_i hfn
      simp only [Option.some.injEq, Prod.mk.injEq] at hl
      obtain ⟨rfl, rfl⟩ := hl
      refine came_of (P := X.P) (s := Instr.makeFunc fn (first.map ρ') (captured.map ρ')) R ⟨_, rfl, ?_⟩
      have r1 : VRL ι (first.map ρ).toList (first.map ρ').toList := args_rel fun x hx => hρ x (by simp [Op.operands]; exact .inl (by simpa using hx))
      have r2 : VRL ι (captured.map ρ).toList (captured.map ρ').toList := args_rel fun x hx => hρ x (by simp [Op.operands]; exact .inr (by simpa using hx))
      exact .func hfn r1.1 r1.2 r2.1 r2.2
    · simp at hl
  | makeMap t reserve =>
    cases reserve with
    | none =>
      simp only [opA, Option.some.injEq, Prod.mk.injEq] at hl
      obtain ⟨rfl, rfl⟩ := hl
      refine Got.came (P := X.P) (s := Instr.makeMap t none) ⟨.map (some w.heap.size), w.alloc (.map #[] 0), _, ?_, newObj_rel R (.map 0 (.nil ι)), Step.alloc X.ro ι w _ 0 hro, .map (at_new ι _ 0 h R.len)⟩
      simp [Instr.makeMap]
    | some n =>
      simp only [opA] at hl
      split at hl
      · rename_i k e kk i hu he
        simp only [Option.some.injEq, Prod.mk.injEq] at hl
        obtain ⟨rfl, rfl⟩ := hl
        have hn := hρ n (by simp [Op.operands])
        rw [he] at hn
        have hn' := hn.int_inv
        refine Got.came (P := X.P) (s := Instr.makeMap t (some (ρ' n))) ⟨.map (some w.heap.size), w.alloc (.map #[] 0), _, ?_, newObj_rel R (.map 0 (.nil ι)), Step.alloc X.ro ι w _ 0 hro, .map (at_new ι _ 0 h R.len)⟩
        simp [Instr.makeMap, und_run hu, hn', asInt, asIntOf]
      · simp at hl
  | makeSlice t l c =>
    simp only [opA] at hl
    obtain ⟨u, h1, rfl⟩ := newV_inv hl
    exact Got.came (P := X.P) (makeSliceA_run R X.P hro h1 (hρ l (by simp [Op.operands])) (hρ c (by simp [Op.operands])))
  | slice t x lo hi mx =>
    simp only [opA] at hl
    split at hl
    · rename_i r' hf
      simp only [Option.some.injEq, Prod.mk.injEq] at hl
      obtain ⟨rfl, rfl⟩ := hl
      exact flatCase rfl (by simp) hf
    · obtain ⟨u, h1, rfl, rfl⟩ := quietV_inv hl
      obtain ⟨q1, q2⟩ := opt_rel (ι := ι) (x := lo) (ρ := ρ) (ρ' := ρ') fun y hy => hρ y (by subst hy; simp [Op.operands])
      obtain ⟨q3, q4⟩ := opt_rel (ι := ι) (x := hi) (ρ := ρ) (ρ' := ρ') fun y hy => hρ y (by subst hy; simp [Op.operands])
      obtain ⟨q5, q6⟩ := opt_rel (ι := ι) (x := mx) (ρ := ρ) (ρ' := ρ') fun y hy => hρ y (by subst hy; simp [Op.operands])
      exact came_of (P := X.P) R (sliceA_run X.P h1 (hρ x (by simp [Op.operands])) q1 q2 q3 q4 q5 q6 w)
  | fieldAddr s x f =>
    simp only [opA] at hl
    obtain ⟨u, h1, rfl, rfl⟩ := quietV_inv hl
    exact came_of (P := X.P) R (fieldA_run X.P h1 (hρ x (by simp [Op.operands])) w)
  | field t x f =>
    simp only [opA] at hl
    split at hl
    · rename_i r' hf
      simp only [Option.some.injEq, Prod.mk.injEq] at hl
      obtain ⟨rfl, rfl⟩ := hl
      exact flatCase rfl (by simp) hf
    · obtain ⟨u, h1, rfl, rfl⟩ := quietV_inv hl
      exact came_of (P := X.P) R (fieldOfA_run X.P h1 (hρ x (by simp [Op.operands])) w)
  | indexAddr t x i =>
    simp only [opA] at hl
    obtain ⟨u, h1, rfl, rfl⟩ := quietV_inv hl
    exact came_of (P := X.P) R (indexA_run X.P h1 (hρ x (by simp [Op.operands])) (hρ i (by simp [Op.operands])) w)
  | lookup t x k ok =>
    simp only [opA] at hl
    obtain ⟨u, h1, rfl, rfl⟩ := quietV_inv hl
    exact came_of (P := X.P) R (lookupA_run R X.P h1 (hρ x (by simp [Op.operands])) (hρ k (by simp [Op.operands])))
  | mapUpdate t m k v =>
    simp only [opA] at hl
    obtain ⟨h1, rfl⟩ := newU_inv hl
    exact came_unit (P := X.P) (mapUpdateA_run R X.P h1 (hρ m (by simp [Op.operands])) (hρ k (by simp [Op.operands])) (hρ v (by simp [Op.operands])))
  | range t x =>
    simp only [opA] at hl
    obtain ⟨u, h1, rfl⟩ := newV_inv hl
    exact Got.came (P := X.P) (rangeA_run R X.P hro h1 (hρ x (by simp [Op.operands])))
  | next x s =>
    simp only [opA] at hl
    obtain ⟨u, h1, rfl⟩ := newV_inv hl
    exact Got.came (P := X.P) (nextA_run R X.P h1 (hρ x (by simp [Op.operands])) type)
  | entry x =>
    simp only [opA] at hl
    obtain ⟨u, h1, rfl, rfl⟩ := quietV_inv hl
    exact came_of (P := X.P) R (entryA_run R X.P h1 (hρ x (by simp [Op.operands])))
  | typeAssert x xt t ok =>
    simp only [opA] at hl
    split at hl
    · rename_i r' hf
      simp only [Option.some.injEq, Prod.mk.injEq] at hl
      obtain ⟨rfl, rfl⟩ := hl
      exact flatCase rfl (by simp) hf
    · obtain ⟨u, h1, rfl, rfl⟩ := quietV_inv hl
      exact came_of (P := X.P) R (assertA_run R X.P h1 (hρ x (by simp [Op.operands])))
  | extract x i =>
    simp only [opA] at hl
    split at hl
    · rename_i vs he
      obtain ⟨u, h1, rfl, rfl⟩ := quietV_inv hl
      have hx := hρ x (by simp [Op.operands])
      rw [he] at hx
      obtain ⟨bs, e, hb⟩ := hx.tuple_inv
      obtain ⟨u', g1, g2⟩ := hb.get (i := i) (a := u) (by simpa using h1)
      have g1' : bs[i]? = some u' := by simpa using g1
      refine came_of (P := X.P) (s := Instr.extract (ρ' x) i) R ⟨u', ?_, g2⟩
      simp [Instr.extract, e, g1']
    · simp at hl
  | call c =>
    obtain ⟨callee, args, ats⟩ := c
    have hargs : ∀ x ∈ args.toList, VR ι (ρ x) (ρ' x) := fun x hx => hρ x (by simp [Op.operands, Call.operands]; exact .inr (by simpa using hx))
    cases callee with
    | value f =>
      simp only [opA] at hl
      have hfv := hρ f (by simp [Op.operands, Call.operands])
      split at hl
      · rename_i fn first captured he
        rw [he] at hfv
        have : ∃ first' captured', ρ' f = .func fn first' captured' ∧ VRL ι first.toList first'.toList ∧ VRL ι captured.toList captured'.toList := by
          cases hh : ρ' f <;> rw [hh] at hfv <;> cases hfv
          exact ⟨_, _, rfl, ⟨by assumption, by assumption⟩, ⟨by assumption, by assumption⟩⟩
        obtain ⟨first', captured', e, r1, r2⟩ := this
        have ra : VRL ι (first.toList ++ args.toList.map ρ) (first' ++ args.map ρ').toList := by
          rw [Array.toList_append, Array.toList_map]
          exact r1.append (VRL.of_map _ _ _ hargs)
        have := calleeA_run (ro := X.ro) C R hl r2 ra
        have he2 : execOp ρ' ⟨dst, .call ⟨.value f, args, ats⟩, type, pos, after, guard⟩ = invoke (.fn fn captured') (first' ++ args.map ρ') := by
          simp only [execOp, resolve, e, Deferred.ofValue]; rfl
        rw [he2]
        exact this
      · simp at hl
    | invoke rc name =>
      simp only [opA] at hl
      have hrv := hρ rc (by simp [Op.operands, Call.operands])
      have ra : VRL ι (ρ rc :: args.toList.map ρ) (#[ρ' rc] ++ args.map ρ').toList := by
        rw [Array.toList_append, Array.toList_map]
        exact .cons hrv (VRL.of_map _ _ _ hargs)
      have := calleeA_run (ro := X.ro) C R (captured' := #[]) hl (.nil ι) ra
      exact this
    | builtin b =>
      have hx := args_rel (ι := ι) hargs
      cases b with
      | append =>
        simp only [opA] at hl
        obtain ⟨u, h1, rfl⟩ := newV_inv hl
        exact Got.came (P := X.P) (appendA_run R X.P hro h1 hx type)
      | copy =>
        simp only [opA] at hl
        obtain ⟨u, h1, rfl⟩ := newV_inv hl
        exact Got.came (P := X.P) (copyA_run R X.P h1 hx type)
      | len =>
        simp only [opA] at hl
        split at hl
        · rename_i t x e1 e2
          obtain ⟨u, h1, rfl, rfl⟩ := quietV_inv hl
          have e2' : (args.map ρ).toList[0]? = some x := by rw [Array.getElem?_toList]; exact e2
          obtain ⟨x', g1, g2⟩ := hx.get e2'
          have g1' : (args.map ρ')[0]? = some x' := by rw [← Array.getElem?_toList]; exact g1
          exact Got.came (P := X.P) (lenOfA_run R X.P h1 g2 e1 g1' type)
        · simp at hl
      | cap =>
        simp only [opA] at hl
        split at hl
        · rename_i t x e1 e2
          obtain ⟨u, h1, rfl, rfl⟩ := quietV_inv hl
          have e2' : (args.map ρ).toList[0]? = some x := by rw [Array.getElem?_toList]; exact e2
          obtain ⟨x', g1, g2⟩ := hx.get e2'
          have g1' : (args.map ρ')[0]? = some x' := by rw [← Array.getElem?_toList]; exact g1
          exact Got.came (P := X.P) (capOfA_run R X.P h1 g2 e1 g1' type)
        · simp at hl
      | _ =>
        simp only [opA, Option.map_eq_some_iff, Prod.mk.injEq] at hl
        obtain ⟨r', hf, rfl, rfl⟩ := hl
        exact flatCase rfl (by simp) hf
  | _ => simp [opA] at hl

end Sx
end Go.Proofs.YtmfejegpnfbajaaGreatDoor
