/-
  The abstract machine: calls, comparisons; one operation.
-/
import Derived.Test.YtmfejegpnfbajaaGreatDoorSxOp4
namespace Go.Proofs.YtmfejegpnfbajaaGreatDoor
namespace Sx

variable {ι : Map} {h : List Blk} {w : World} {ro : Nat}

/-- What an abstract result stands for. -/
inductive RR (ι : Map) : Res → Next → Prop
  | value {v v' : Value} (r : VR ι v v') : RR ι (.value v) (.value v')
  | skip : RR ι .skip .skip
  | enter (f : FuncId) {l : List Value} {args : Array Value} (r : VRL ι l args.toList) : RR ι (.enter f l) (.enter f args)

/-- What an operation comes to. -/
def Came (ro : Nat) (ι : Map) (w : World) (r : Res) (h' : List Blk) (s : Result Next) : Prop :=
  ∃ n w' ι', s = .ok n w' ∧ Rel ι' h' w' ∧ Step ro ι w ι' w' ∧ RR ι' r n

/-- A contract of a function. -/
def Holds (X : Ctx) (f : FuncId) (args : List Value) (h : List Blk) (v : Value) (h' : List Blk) : Prop :=
  ∀ (ι : Map) (w : World) (args' : List Value), Rel ι h w → (∀ g, g < X.globs → ∃ sz, At ι g g sz) → X.ro ≤ ι.length → VRL ι args args' →
    Calls X.P f args'.toArray w fun e w' => ∃ ι' v', e = .returned v' ∧ Rel ι' h' w' ∧ Step X.ro ι w ι' w' ∧ VR ι' v v'

structure Ok (X : Ctx) : Prop where
  mixed : X.P.follows .mixedOrders = true
  fn : ∀ f fn, X.F f = some fn → X.P.funcs[f]? = some fn ∧ (fn.name == "runtime.NumGoroutine") = false
  ext : ∀ f e l v, X.E f = some e → e l = some v → ∀ (ι : Map) (w : World) (l' : List Value), VRL ι l l' → ∃ v', (callFunc f l'.toArray).run X.P w = .ok (.value v') w ∧ VR ι v v'
  con : ∀ f k args h v h', X.K f = some k → k args h = some (v, h') → Holds X f args h v h'

theorem Got.came {v : Value} {h' : List Blk} {s : Sem Value} {P : Program} (g : Got ro ι w v h' (s.run P w)) : Came ro ι w (.value v) h' ((do pure (.value (← s)) : Sem Next).run P w) := by
  obtain ⟨v', w', ι', h1, h2, h3, h4⟩ := g
  refine ⟨.value v', w', ι', ?_, h2, h3, .value h4⟩
  simp [h1]

theorem came_value (R : Rel ι h w) {v v' : Value} (r : VR ι v v') : Came ro ι w (.value v) h (.ok (.value v') w) := ⟨_, w, ι, rfl, R, .refl ro ι w, .value r⟩

theorem came_of {P : Program} (R : Rel ι h w) {v : Value} {s : Sem Value} (g : ∃ v', s.run P w = .ok v' w ∧ VR ι v v') : Came ro ι w (.value v) h ((do pure (.value (← s)) : Sem Next).run P w) := by
  obtain ⟨v', h1, h2⟩ := g
  refine ⟨.value v', w, ι, by simp [h1], R, .refl ro ι w, .value h2⟩

theorem came_unit {P : Program} {h' : List Blk} {s : Sem Unit} (g : ∃ w', s.run P w = .ok () w' ∧ Rel ι h' w' ∧ Step ro ι w ι w') : Came ro ι w .skip h' ((do s; pure .skip : Sem Next).run P w) := by
  obtain ⟨w', h1, h2, h3⟩ := g
  exact ⟨.skip, w', ι, by simp [h1], h2, h3, .skip⟩

theorem quietV_inv {v : Option Value} {r : Res} {h' : List Blk} (hl : quietV v h = some (r, h')) : ∃ u, v = some u ∧ r = .value u ∧ h' = h := by
  cases v with
  | none => simp [quietV] at hl
  | some u => simp [quietV] at hl; exact ⟨u, rfl, hl.1.symm, hl.2.symm⟩
theorem newV_inv {v : Option (Value × List Blk)} {r : Res} {h' : List Blk} (hl : newV v = some (r, h')) : ∃ u, v = some (u, h') ∧ r = .value u := by
  cases v with
  | none => simp [newV] at hl
  | some u => obtain ⟨u, k⟩ := u; simp [newV] at hl; exact ⟨u, by rw [hl.2], hl.1.symm⟩
theorem newU_inv {v : Option (List Blk)} {r : Res} {h' : List Blk} (hl : newU v = some (r, h')) : v = some h' ∧ r = .skip := by
  cases v with
  | none => simp [newU] at hl
  | some k => simp [newU] at hl; exact ⟨by rw [hl.2], hl.1.symm⟩

/-! ### What has no address in it -/

theorem flatOp_run (R : Rel ι h w) (P : Program) {ρ ρ' : Operand → Value} {o : Oper} (hs : ∀ cs b, o.op ≠ .select cs b) (hρ : ∀ x ∈ o.op.operands.toList, VR ι (ρ x) (ρ' x)) {r : Res} (hl : flatOp P ρ o = some r) :
    Came ro ι w r h ((execOp ρ' o).run P w) := by
  unfold flatOp at hl
  split at hl
  case isFalse => simp at hl
  rename_i hall
  have heq : execOp ρ o = execOp ρ' o := execOp_congr o hs fun x hx => by
    have hx' : x ∈ o.op.operands.toList := by simpa using hx
    exact isFlat_eq (List.all_eq_true.1 hall x hx') (hρ x hx')
  rw [heq] at hl
  split at hl
  · rename_i v hp
    split at hl
    · rename_i hf
      simp at hl
      subst hl
      rw [pureRun_run P w _ _ hp]
      exact came_value R (isFlat_refl ι hf)
    · simp at hl
  · rename_i hp
    simp at hl
    subst hl
    rw [pureRun_run P w _ _ hp]
    exact ⟨.skip, w, ι, rfl, R, .refl ro ι w, .skip⟩
  · simp at hl

/-! ### Comparisons with nil -/

theorem nilEq_run0 (P : Program) {t : TypeId} {x y x' y' : Value} {b : Bool} (ht : nilType P t x = true) (he : nilEq x y = some b) (hx : VR ι x x') (hy : VR ι y y') (n : Nat) (w : World) : (Op.equalIn (n + 1) t x' y').run P w = .ok b w := by
  have und : ∃ d, P.underlying t = some d := by
    cases hu : P.underlying t with
    | none => cases x <;> simp [nilType, hu] at ht
    | some d => exact ⟨d, rfl⟩
  obtain ⟨d, hu⟩ := und
  unfold nilEq at he
  split at he <;> simp only [Option.some.injEq, reduceCtorEq] at he <;> subst he
  · cases hx; obtain ⟨_, _, _, _, rfl⟩ := hy.ptr_inv
    simp only [nilType, hu] at ht
    cases d <;> simp at ht
    simp only [Op.equalIn, Sem.run_bind, und_run hu, Result.andThen_ok]; rfl
  · cases hy; obtain ⟨_, _, _, _, rfl⟩ := hx.ptr_inv
    simp only [nilType, hu] at ht
    cases d <;> simp at ht
    simp only [Op.equalIn, Sem.run_bind, und_run hu, Result.andThen_ok]; rfl
  · rw [hx.snil_inv]; obtain ⟨_, _, _, _, _, rfl, _⟩ := hy.slice_inv
    simp only [nilType, hu] at ht
    cases d <;> simp at ht
    simp only [Op.equalIn, Sem.run_bind, und_run hu, Result.andThen_ok]; rfl
  · rw [hy.snil_inv]; obtain ⟨_, _, _, _, _, rfl, _⟩ := hx.slice_inv
    simp only [nilType, hu] at ht
    cases d <;> simp at ht
    simp only [Op.equalIn, Sem.run_bind, und_run hu, Result.andThen_ok]; rfl
  · cases hx; cases hy
    simp only [nilType, hu] at ht
    cases d <;> simp at ht
    simp only [Op.equalIn, Sem.run_bind, und_run hu, Result.andThen_ok]; rfl
  · cases hx; cases hy
    simp only [nilType, hu] at ht
    cases d <;> simp at ht
    simp only [Op.equalIn, Sem.run_bind, und_run hu, Result.andThen_ok]; rfl
  · cases hx; cases hy
    simp only [nilType, hu] at ht
    cases d <;> simp at ht
    simp only [Op.equalIn, Sem.run_bind, und_run hu, Result.andThen_ok]; rfl
  · cases hx; cases hy
    simp only [nilType, hu] at ht
    cases d <;> simp at ht
    simp only [Op.equalIn, Sem.run_bind, und_run hu, Result.andThen_ok]; rfl
  · cases hx; cases hy
    simp only [nilType, hu] at ht
    cases d <;> simp at ht
    simp only [Op.equalIn, Sem.run_bind, und_run hu, Result.andThen_ok]; rfl
  · cases hx; cases hy
    simp only [nilType, hu] at ht
    cases d <;> simp at ht
    simp only [Op.equalIn, Sem.run_bind, und_run hu, Result.andThen_ok]; rfl

theorem nilEq_run (P : Program) {t : TypeId} {x y x' y' : Value} {b : Bool} (ht : nilType P t x = true) (he : nilEq x y = some b) (hx : VR ι x x') (hy : VR ι y y') (w : World) : (Op.equal t x' y').run P w = .ok b w :=
  nilEq_run0 P ht he hx hy 9999 w

/-- Not two nil interface values, nor two structs. -/
theorem guard_run (P : Program) (op : BinOp) (t : TypeId) (ox oy : Operand) {x y x' y' : Value} {b : Bool} (he : nilEq x y = some b) (hx : VR ι x x') (hy : VR ι y y') (w : World) : (eqGuard op t ox oy x' y').run P w = .ok () w := by
  unfold nilEq at he
  unfold eqGuard
  split at he <;> simp only [Option.some.injEq, reduceCtorEq] at he <;> cases hx <;> cases hy <;> cases op <;> rfl

theorem binEq (t : TypeId) {x y x' y' : Value} {b : Bool} (he : nilEq x y = some b) (hx : VR ι x x') (hy : VR ι y y') :
    binOp .eql t x' y' = (do pure (.bool (← Op.equal t x' y')) : Sem Value) ∧ binOp .neq t x' y' = (do pure (.bool (!(← Op.equal t x' y'))) : Sem Value) := by
  unfold nilEq at he
  split at he <;> simp only [Option.some.injEq, reduceCtorEq] at he <;> cases hx <;> cases hy <;> exact ⟨rfl, rfl⟩

theorem binA_run (R : Rel ι h w) (P : Program) {op : BinOp} {t : TypeId} {ox oy : Operand} {x y x' y' v : Value} (hl : binA P op t x y = some v) (hx : VR ι x x') (hy : VR ι y y') :
    ∃ v', (do eqGuard op t ox oy x' y'; binOp op t x' y' : Sem Value).run P w = .ok v' w ∧ VR ι v v' := by
  unfold binA at hl
  split at hl
  case isFalse => simp at hl
  rename_i ht
  split at hl
  · cases he : nilEq x y with
    | none => simp [he] at hl
    | some b =>
      simp [he] at hl
      refine ⟨.bool b, ?_, hl ▸ .bool b⟩
      rw [Sem.run_bind, guard_run P .eql t ox oy he hx hy w, Result.andThen_ok, (binEq t he hx hy).1, Sem.run_bind, nilEq_run P ht he hx hy w, Result.andThen_ok, Sem.run_pure]
  · cases he : nilEq x y with
    | none => simp [he] at hl
    | some b =>
      simp [he] at hl
      refine ⟨.bool (!b), ?_, hl ▸ .bool _⟩
      rw [Sem.run_bind, guard_run P .neq t ox oy he hx hy w, Result.andThen_ok, (binEq t he hx hy).2, Sem.run_bind, nilEq_run P ht he hx hy w, Result.andThen_ok, Sem.run_pure]
  · simp at hl

theorem assertA_run (R : Rel ι h w) (P : Program) {x x' v : Value} {xt t : TypeId} {ok : Bool} (hl : assertA P x t ok = some v) (hx : VR ι x x') :
    ∃ v', (Instr.typeAssert x' xt t ok).run P w = .ok v' w ∧ VR ι v v' := by
  unfold assertA at hl
  split at hl
  · simp at hl
  · rename_i d u y hu hni
    cases hx with
    | @iface _ _ y' hy =>
      unfold Instr.typeAssert
      simp only [Sem.run_bind, und_run hni, Result.andThen_ok]
      split at hl
      · rename_i hut
        subst hut
        simp at hl
        refine ⟨if ok then .tuple #[y', .bool true] else y', ?_, ?_⟩
        · cases d <;> first | (exfalso; exact hu _ rfl) | simp
        · rw [← hl]
          split
          · exact VRL.tuple (.cons hy (.cons (.bool _) (.nil ι)))
          · exact hy
      · rename_i hut
        split at hl
        · rename_i hok
          subst hok
          cases hz : zeroV P t with
          | none => simp [hz] at hl
          | some z =>
            simp [hz] at hl
            obtain ⟨z1, z2⟩ := zeroV_run hz ι w
            refine ⟨.tuple #[z, .bool false], ?_, ?_⟩
            · cases d <;> first | (exfalso; exact hu _ rfl) | simp [hut, z1]
            · rw [← hl]; exact VRL.tuple (.cons z2 (.cons (.bool _) (.nil ι)))
        · simp at hl
  · simp at hl

/-! ### Calls -/

theorem callFunc_run {X : Ctx} (C : Ok X) {f : FuncId} {fn : Func} (hf : X.F f = some fn) (hb : fn.body.isSome = true) (args : Array Value) (w : World) : (callFunc f args).run X.P w = .ok (.enter f args) w := by
  obtain ⟨h1, h2⟩ := C.fn f fn hf
  unfold callFunc
  have hb' : fn.body.isNone = false := by cases hh : fn.body <;> simp_all
  simp only [Sem.run_bind, run_program, Result.andThen_ok, h1, h2, Bool.false_eq_true, if_false, hb', Sem.run_pure]

theorem enterA_run {X : Ctx} (C : Ok X) (R : Rel ι h w) {f : FuncId} {l : List Value} {l' : Array Value} {r : Res} {h' : List Blk} (hl : enterA X h (some (f, l)) = some (r, h')) (hx : VRL ι l l'.toList) :
    Came ro ι w r h' ((callFunc f l').run X.P w) := by
  unfold enterA at hl
  dsimp only at hl
  split at hl
  · rename_i e he
    split at hl
    · rename_i v hv
      simp only [Option.some.injEq, Prod.mk.injEq] at hl
      obtain ⟨rfl, rfl⟩ := hl
      obtain ⟨v', h1, h2⟩ := C.ext f e l v he hv ι w l'.toList hx
      rw [Array.toArray_toList] at h1
      rw [h1]
      exact came_value R h2
    · simp at hl
  · split at hl
    · rename_i fn hf
      split at hl
      · rename_i hb
        simp only [Option.some.injEq, Prod.mk.injEq] at hl
        obtain ⟨rfl, rfl⟩ := hl
        rw [callFunc_run C hf hb l' w]
        exact ⟨_, w, ι, rfl, R, .refl ro ι w, .enter f hx⟩
      · simp at hl
    · simp at hl

theorem methodA_run (P : Program) {t : TypeId} {v v' x : Value} {name : String} {f : FuncId} (hl : methodA P t v name = some (f, x)) (hv : VR ι v v') (n : Nat) (w : World) :
    ∃ x', (method (n + 1) t v' name).run P w = .ok (f, x') w ∧ VR ι x x' := by
  unfold methodA at hl
  cases hi : P.info? t with
  | none => simp [hi] at hl
  | some info =>
    simp only [hi, Option.bind_eq_bind, Option.bind_some] at hl
    cases hm : info.methods.find? (·.name == name) with
    | none => simp [hm] at hl
    | some m =>
      simp only [hm, Option.bind_some] at hl
      split at hl
      · simp at hl
      rename_i hp
      simp only [Bool.not_eq_true, Bool.not_eq_false'] at hp
      have hpl : m.path.toList = [] := by
        rw [Array.isEmpty_iff] at hp
        rw [hp]
      cases hmf : m.func with
      | none => simp [hmf] at hl
      | some fp =>
        obtain ⟨g, ptr⟩ := fp
        simp only [hmf, Option.bind_some] at hl
        unfold method
        simp only [Sem.run_bind, info_run hi, Result.andThen_ok, hm, hpl, follow, Sem.run_pure, hmf, hp, if_true]
        split at hl
        · rename_i e hu
          simp at hl
          obtain ⟨rfl, rfl⟩ := hl
          exact ⟨v', by simp [receiverAt, und_run hu, Place.get], hv⟩
        · simp at hl
        · rename_i d hnp hu
          simp at hl
          obtain ⟨rfl, rfl⟩ := hl
          refine ⟨v', ?_, hv⟩
          cases d <;> first | (exfalso; exact hnp _ rfl) | simp [receiverAt, und_run hu, Place.get]
        · simp at hl

theorem types_pos {P : Program} : ∃ n, P.types.size + Made.depth = n + 1 := ⟨P.types.size + 99, by simp [Made.depth]⟩

theorem calleeA_run {X : Ctx} (C : Ok X) (R : Rel ι h w) {fn : Fn} {captured args : List Value} {captured' args' : Array Value} {r : Res} {h' : List Blk} (hl : enterA X h (calleeA X.P fn captured args) = some (r, h')) (hc : VRL ι captured captured'.toList) (ha : VRL ι args args'.toList) :
    Came ro ι w r h' ((invoke (.fn fn captured') args').run X.P w) := by
  unfold calleeA at hl
  split at hl
  · rename_i f
    simp only [invoke]
    refine enterA_run C R hl ?_
    simp only [Array.toList_append]
    exact ha.append hc
  · rename_i name
    split at hl
    · rename_i t v rest
      obtain ⟨b, k, he, h1, h2⟩ := ha.cases_cons
      cases h1 with
      | @iface _ _ v' hv =>
        cases hm : methodA X.P t v name with
        | none => simp [hm, enterA] at hl
        | some fx =>
          obtain ⟨f, x⟩ := fx
          simp only [hm, Option.bind_eq_bind, Option.bind_some] at hl
          obtain ⟨n, hn⟩ := types_pos (P := X.P)
          obtain ⟨x', g1, g2⟩ := methodA_run X.P hm hv n w
          have e0 : args'[0]? = some (.iface t v') := by rw [← Array.getElem?_toList, he]; rfl
          have e1 : (#[x'] ++ args'.extract 1 args'.size).toList = x' :: k := by
            simp only [Array.toList_append, Array.toList_extract, he]
            simp [← Array.length_toList, he]
          have := enterA_run (ro := ro) (w := w) C R (l' := #[x'] ++ args'.extract 1 args'.size) hl (by rw [e1]; exact .cons g2 h2)
          simp only [invoke, e0, callMethod, Sem.run_bind, run_program, Result.andThen_ok, hn, g1]
          exact this
    · simp [enterA] at hl
  · rename_i t path f ptr
    split at hl
    · rename_i x rest
      obtain ⟨x', k, he, h1, h2⟩ := ha.cases_cons
      split at hl
      · simp [enterA] at hl
      rename_i hp
      simp only [Bool.not_eq_true, Bool.not_eq_false'] at hp
      have hpl : path.toList = [] := by rw [Array.isEmpty_iff] at hp; rw [hp]
      have e0 : args'[0]? = some x' := by rw [← Array.getElem?_toList, he]; rfl
      have e1 : (#[x'] ++ args'.extract 1 args'.size).toList = x' :: k := by
        simp only [Array.toList_append, Array.toList_extract, he]
        simp [← Array.length_toList, he]
      have fin : ∀ hl' : enterA X h (some (f, x :: rest)) = some (r, h'), Came ro ι w r h' ((callFunc f (#[x'] ++ args'.extract 1 args'.size)).run X.P w) := fun hl' =>
        enterA_run (ro := ro) (w := w) C R (l' := #[x'] ++ args'.extract 1 args'.size) hl' (by rw [e1]; exact .cons h1 h2)
      split at hl
      · rename_i e hu
        have hr : (receiverVia t x' path true).run X.P w = .ok x' w := by simp [receiverVia, hpl, follow, receiverAt, und_run hu, Place.get]
        simp only [invoke, e0, Sem.run_bind, hr, Result.andThen_ok]
        exact fin hl
      · simp [enterA] at hl
      · rename_i d hnp hu
        have hr : (receiverVia t x' path false).run X.P w = .ok x' w := by
          cases d <;> first | (exfalso; exact hnp _ rfl) | simp [receiverVia, hpl, follow, receiverAt, und_run hu, Place.get]
        simp only [invoke, e0, Sem.run_bind, hr, Result.andThen_ok]
        exact fin hl
      · simp [enterA] at hl
    · simp [enterA] at hl
  · simp [enterA] at hl

end Sx
end Go.Proofs.YtmfejegpnfbajaaGreatDoor
