/-
  The abstract machine: code, calls: what the evaluator says is what the call does.
-/
import Derived.Test.YtmfejegpnfbajaaGreatDoorSxDraw4
namespace Go.Proofs.YtmfejegpnfbajaaGreatDoor
namespace Sx

variable {X : Ctx} {call : CallF} {ι : Map} {h : List Blk} {w : World}

/-- The rounds of a loop, from the body's begin on. -/
def LW (P : Program) (c : Code) (Q : Exit → Act → World → Prop) (a : Act) (w : World) : Prop :=
  ∀ (b : Frame) (k : List Item) (cs : List Frame), ∃ e a' w', Q e a' w' ∧ Arrives P (lone (b.at a (.code c :: .inLoop c :: k)) cs w) b k cs e a' w'

theorem LW.wp {P : Program} {c : Code} {Q : Exit → Act → World → Prop} {a : Act} {w : World} (h : LW P c Q a w) : (Code.loop c).wp P Q a w := by
  intro b k cs
  obtain ⟨e, a', w', hq, harr⟩ := h b k cs
  exact ⟨e, a', w', hq, .of_steps (.one step_loop) harr⟩

theorem LW.round {P : Program} {c : Code} {Q : Exit → Act → World → Prop} {a : Act} {w : World} (h : c.wp P (Exit.then (LW P c Q) Q) a w) : LW P c Q a w := by
  intro b k cs
  obtain ⟨e, a₁, w₁, hq, harr⟩ := h b (.inLoop c :: k) cs
  cases e with
  | normal =>
    obtain ⟨e₂, a₂, w₂, hq₂, harr₂⟩ := hq b k cs
    exact ⟨e₂, a₂, w₂, hq₂, .of_steps (Steps.trans harr (.one step_inLoop)) harr₂⟩
  | exit id => exact ⟨_, a₁, w₁, hq, .pass (x := .inLoop c) rfl (fun _ _ => .inl (by simp)) harr⟩
  | goto l => exact ⟨_, a₁, w₁, hq, .pass (x := .inLoop c) rfl (fun _ _ => .inl (by simp)) harr⟩
  | ret => exact ⟨_, a₁, w₁, hq, .pass (x := .inLoop c) rfl (fun _ _ => .inl (by simp)) harr⟩
  | panic ch => exact ⟨_, a₁, w₁, hq, .pass (x := .inLoop c) rfl (fun _ _ => .inl (by simp)) harr⟩
  | outgrown => exact ⟨_, a₁, w₁, hq, .pass (x := .inLoop c) rfl (fun _ _ => .inl (by simp)) harr⟩

def Out.exit' : Out → Exit
  | .normal => .normal
  | .exit id => .exit id
  | .ret => .ret

/-- Where code ends as the evaluator says. -/
def Ends (X : Ctx) (ι : Map) (w : World) (o : Out) (t : Array Value) (h' : List Blk) (Q : Exit → Act → World → Prop) : Prop :=
  ∀ ι' w' a', Step X.ro ι w ι' w' → Rel ι' h' w' → TR ι' t a' → Q o.exit' a' w'

theorem codeA_wp (C : Ok X) (K : CallOk X call) : ∀ (n : Nat) (c : Code) (tmps : Array Value) (h : List Blk) (o : Out) (t : Array Value) (h' : List Blk), codeA X call n c tmps h = some (o, t, h') →
    ∀ (ι : Map) (w : World) (a : Act), Rel ι h w → Glob X ι → X.ro ≤ ι.length → TR ι tmps a → ∀ (Q : Exit → Act → World → Prop), Ends X ι w o t h' Q → c.wp X.P Q a w ∧ ∀ b, c = .loop b → LW X.P b Q a w := by
  intro n
  induction n with
  | zero => intro c tmps h o t h' hl; simp [codeA] at hl
  | succ n ih =>
    intro c tmps h o t h' hl ι w a R G hro T Q hq
    cases c with
    | skip =>
      simp only [codeA, Option.some.injEq, Prod.mk.injEq] at hl
      obtain ⟨rfl, rfl, rfl⟩ := hl
      exact ⟨wp_skip (hq ι w a (.refl _ ι w) R T), fun b hb => by cases hb⟩
    | region id ops draw =>
      refine ⟨?_, fun b hb => by cases hb⟩
      simp only [codeA] at hl
      split at hl
      · rename_i t' h1 hr
        simp only [Option.some.injEq, Prod.mk.injEq] at hl
        obtain ⟨rfl, rfl, rfl⟩ := hl
        cases draw with
        | true => exact drawA_wp C K (by simpa using hr) R G hro T (fun ι' w' a' s r tr => hq ι' w' a' s r tr)
        | false =>
          refine wp_region ?_
          have := opsA_wp C K ops (Q := Q) ops.toList 0 tmps h t' h1 ι w a (by simp) (by simpa using hr) R G hro T (fun ι' w' a' s r tr => hq ι' w' a' s r tr)
          rw [List.range_eq_range']
          simpa using this
      · simp at hl
    | seq x y =>
      refine ⟨?_, fun b hb => by cases hb⟩
      simp only [codeA] at hl
      refine wp_seq ?_
      split at hl
      · rename_i t1 h1 hx
        refine (ih x _ _ _ _ _ hx ι w a R G hro T _ ?_).1
        intro ι' w' a' s r tr
        exact (ih y _ _ _ _ _ hl ι' w' a' r (G.mono s.le) (Nat.le_trans hro s.len) tr Q (fun ι'' w'' a'' s' r' tr' => hq ι'' w'' a'' (s.trans s') r' tr')).1
      · rename_i hne
        refine (ih x _ _ _ _ _ hl ι w a R G hro T _ ?_).1
        intro ι' w' a' s r tr
        have := hq ι' w' a' s r tr
        cases o with
        | normal => exact absurd hl (hne _ _)
        | exit id => exact this
        | ret => exact this
    | cond c x y =>
      refine ⟨?_, fun b hb => by cases hb⟩
      simp only [codeA] at hl
      split at hl
      case isFalse => simp at hl
      rename_i hok
      split at hl
      · rename_i b hb
        have hv : VR ι (evalA tmps c) (a.eval c) := eval_rel G (fun t => T.rel.getD t) hok
        rw [hb] at hv
        have hb' : a.eval c = .bool b := by cases hh : a.eval c <;> rw [hh] at hv <;> cases hv; rfl
        refine wp_cond hb' ?_
        exact (ih _ _ _ _ _ _ hl ι w a R G hro T Q hq).1
      · simp at hl
    | block id x =>
      refine ⟨?_, fun b hb => by cases hb⟩
      simp only [codeA] at hl
      refine wp_block ?_
      split at hl
      · rename_i id' t1 h1 hx
        split at hl
        · rename_i hid
          subst hid
          simp only [Option.some.injEq, Prod.mk.injEq] at hl
          obtain ⟨rfl, rfl, rfl⟩ := hl
          refine (ih x _ _ _ _ _ hx ι w a R G hro T _ ?_).1
          intro ι' w' a' s r tr
          show (if id' = id' then Q .normal a' w' else Q (.exit id') a' w')
          rw [if_pos rfl]
          exact hq ι' w' a' s r tr
        · rename_i hid
          simp only [Option.some.injEq, Prod.mk.injEq] at hl
          obtain ⟨rfl, rfl, rfl⟩ := hl
          refine (ih x _ _ _ _ _ hx ι w a R G hro T _ ?_).1
          intro ι' w' a' s r tr
          show (if id' = id then Q .normal a' w' else Q (.exit id') a' w')
          rw [if_neg hid]
          exact hq ι' w' a' s r tr
      · rename_i hne
        refine (ih x _ _ _ _ _ hl ι w a R G hro T _ ?_).1
        intro ι' w' a' s r tr
        have := hq ι' w' a' s r tr
        cases o with
        | normal => exact this
        | exit id' => exact absurd hl (hne _ _ _)
        | ret => exact this
    | loop x =>
      simp only [codeA] at hl
      have key : LW X.P x Q a w := by
        refine LW.round ?_
        split at hl
        · rename_i t1 h1 hx
          refine (ih x _ _ _ _ _ hx ι w a R G hro T _ ?_).1
          intro ι' w' a' s r tr
          exact (ih (.loop x) _ _ _ _ _ hl ι' w' a' r (G.mono s.le) (Nat.le_trans hro s.len) tr Q (fun ι'' w'' a'' s' r' tr' => hq ι'' w'' a'' (s.trans s') r' tr')).2 x rfl
        · rename_i hne
          refine (ih x _ _ _ _ _ hl ι w a R G hro T _ ?_).1
          intro ι' w' a' s r tr
          have := hq ι' w' a' s r tr
          cases o with
          | normal => exact absurd hl (hne _ _)
          | exit id => exact this
          | ret => exact this
      refine ⟨key.wp, ?_⟩
      intro b hb
      injection hb with hb
      exact hb ▸ key
    | exit id =>
      simp only [codeA, Option.some.injEq, Prod.mk.injEq] at hl
      obtain ⟨rfl, rfl, rfl⟩ := hl
      exact ⟨wp_exit (hq ι w a (.refl _ ι w) R T), fun b hb => by cases hb⟩
    | ret =>
      simp only [codeA, Option.some.injEq, Prod.mk.injEq] at hl
      obtain ⟨rfl, rfl, rfl⟩ := hl
      exact ⟨wp_ret (hq ι w a (.refl _ ι w) R T), fun b hb => by cases hb⟩
    | rangeFunc f ps x y => simp [codeA] at hl
    | scope x => simp [codeA] at hl
    | label l => simp [codeA] at hl
    | goto l => simp [codeA] at hl
    | refuse why => simp [codeA] at hl

theorem mapM_rel {α : Type} (P : Program) (f : α → Option Value) (g : α → Sem Value) (w : World) : ∀ (l : List α) (r : List Value), l.mapM f = some r → (∀ x y, x ∈ l → f x = some y → ∃ y', (g x).run P w = .ok y' w ∧ VR ι y y') → ∃ r', (l.mapM g).run P w = .ok r' w ∧ VRL ι r r'
  | [], r, h, _ => by simp at h; subst h; exact ⟨[], by simp, .nil ι⟩
  | a :: l, r, h, hg => by
    simp only [List.mapM_cons, Option.bind_eq_bind] at h
    cases ha : f a with
    | none => simp [ha] at h
    | some y =>
      simp only [ha, Option.bind_some] at h
      cases hl : l.mapM f with
      | none => simp [hl] at h
      | some ys =>
        simp [hl] at h
        subst h
        obtain ⟨y', h1, h2⟩ := hg a y (by simp) ha
        obtain ⟨ys', h3, h4⟩ := mapM_rel P f g w l ys hl (fun x y hx => hg x y (by simp [hx]))
        exact ⟨y' :: ys', by simp [List.mapM_cons, h1, h3], .cons h2 h4⟩

def resS (tmps : Array Value) : ResultVar → Sem Value
  | .tmp t => pure (tmps.getD t undef)
  | .cell a t => do loadVar t (← asAddr (tmps.getD a undef))

theorem results_eq (fn : Func) (tmps : Array Value) : results fn tmps = (do let vs ← fn.results.mapM (resS tmps); pure (if h : vs.size = 1 then vs[0] else .tuple vs)) := by
  have : (fun r : ResultVar => match r with
    | .tmp t => (pure (tmps.getD t undef) : Sem Value)
    | .cell a t => do loadVar t (← asAddr (tmps.getD a undef))) = resS tmps := by
    funext r; cases r <;> rfl
  unfold results
  rw [← this]
  rfl

theorem resultsA_run (R : Rel ι h w) (P : Program) {fn : Func} {t : Array Value} {a : Act} {v : Value} (hl : resultsA P fn t h = some v) (T : TR ι t a) : ∃ v', (results fn a.tmps).run P w = .ok v' w ∧ VR ι v v' := by
  unfold resultsA at hl
  cases hm : fn.results.toList.mapM (resA P t h) with
  | none => rw [hm] at hl; simp at hl
  | some vs =>
    rw [hm] at hl
    obtain ⟨vs', h1, h2⟩ := mapM_rel (ι := ι) P _ (resS a.tmps) w _ vs hm (by
        intro x y _ hy
        cases x with
        | tmp k =>
          simp only [resA, Option.some.injEq] at hy
          exact ⟨_, rfl, hy ▸ T.rel.getD k⟩
        | cell b ty =>
          simp only [resA] at hy
          obtain ⟨a', v', e1, e2, e3⟩ := loadA_run R P hy (T.rel.getD b)
          exact ⟨v', by simp only [resS, e1, asAddr, Sem.run_bind, Sem.run_pure, Result.andThen_ok, e2], e3⟩)
    have hr : (results fn a.tmps).run P w = .ok (if h : vs'.toArray.size = 1 then vs'.toArray[0] else .tuple vs'.toArray) w := by
      rw [results_eq, Sem.run_bind, Array.mapM_eq_mapM_toList, Sem.run_map, h1]
      rfl
    match vs, h2, hl with
    | [x], h2, hl =>
      obtain ⟨x', k, rfl, h3, h4⟩ := h2.cases_cons
      have := h4.cases_nil
      subst this
      simp at hl
      exact ⟨x', by rw [hr]; rfl, hl ▸ h3⟩
    | [], h2, hl =>
      have := h2.cases_nil
      subst this
      simp at hl
      exact ⟨.tuple #[], by rw [hr]; rfl, hl ▸ (VRL.nil ι).tuple⟩
    | x :: y :: r, h2, hl =>
      simp only [Option.some.injEq] at hl
      refine ⟨.tuple vs'.toArray, ?_, hl ▸ h2.tuple'⟩
      rw [hr]
      have hlen := h2.1
      simp only [List.length_cons] at hlen
      have : ¬ vs'.toArray.size = 1 := by simp; omega
      rw [dif_neg this]

/-- What the evaluator says of a call is what the call does. -/
theorem callA_ok (C : Ok X) (fuel : Nat) : ∀ n, CallOk X (callA X fuel n) := by
  intro n
  induction n with
  | zero => intro f args h v h' hl; simp [callA] at hl
  | succ n ih =>
    intro f args h v h' hl
    simp only [callA] at hl
    split at hl
    · rename_i k hk
      exact C.con f k args h v h' hk hl
    · split at hl
      · rename_i fn hfn
        split at hl
        · rename_i c hc
          intro ι w args' R G hro hargs
          obtain ⟨hf, _⟩ := C.fn f fn hfn
          refine calls_of_wp hf hc ?_
          have hsz : args'.toArray.size = args.length := by simp [hargs.1]
          have T : TR ι (args.toArray ++ Array.replicate (fn.ntmps - args.length) undef) { tmps := args'.toArray ++ Array.replicate (fn.ntmps - args'.toArray.size) undef, defers := [] } := by
            refine ⟨?_, rfl⟩
            rw [hsz]
            simp only [Array.toList_append, Array.toList_replicate]
            exact hargs.append (VRL.replicate _ (undef_rel ι))
          split at hl
          · rename_i t h1 hcode
            refine (codeA_wp C ih fuel c _ _ _ _ _ hcode ι w _ R G hro T _ ?_).1
            intro ι' w' a' s r tr
            cases hres : resultsA X.P fn t h1 with
            | none => simp [hres] at hl
            | some u =>
              simp [hres] at hl
              obtain ⟨rfl, rfl⟩ := hl
              obtain ⟨v', e1, e2⟩ := resultsA_run r X.P hres tr
              exact ⟨tr.none, v', e1, ι', v', rfl, r, s, e2⟩
          · rename_i t h1 hcode
            refine (codeA_wp C ih fuel c _ _ _ _ _ hcode ι w _ R G hro T _ ?_).1
            intro ι' w' a' s r tr
            cases hres : resultsA X.P fn t h1 with
            | none => simp [hres] at hl
            | some u =>
              simp [hres] at hl
              obtain ⟨rfl, rfl⟩ := hl
              obtain ⟨v', e1, e2⟩ := resultsA_run r X.P hres tr
              exact ⟨tr.none, v', e1, ι', v', rfl, r, s, e2⟩
          · simp at hl
        · simp at hl
      · simp at hl

end Sx
end Go.Proofs.YtmfejegpnfbajaaGreatDoor
