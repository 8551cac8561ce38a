/-
  The abstract machine: operations in the order of the text.
-/
import Derived.Test.YtmfejegpnfbajaaGreatDoorSxOp6
namespace Go.Proofs.YtmfejegpnfbajaaGreatDoor
namespace Sx

variable {X : Ctx} {ι : Map} {h : List Blk} {w : World}

def Glob (X : Ctx) (ι : Map) : Prop := ∀ g, g < X.globs → ∃ sz, At ι g g sz
theorem Glob.mono {ι' : Map} (g : Glob X ι) (h : Le ι ι') : Glob X ι' := fun k hk => let ⟨sz, a⟩ := g k hk; ⟨sz, h _ _ _ a⟩

/-- The slots of a frame. -/
structure TR (ι : Map) (tmps : Array Value) (a : Act) : Prop where
  rel : VRL ι tmps.toList a.tmps.toList
  none : a.defers = []

theorem TR.mono {ι' : Map} {tmps : Array Value} {a : Act} (t : TR ι tmps a) (h : Le ι ι') : TR ι' tmps a := ⟨t.rel.mono h, t.none⟩

theorem VRL.getD {as bs : Array Value} (r : VRL ι as.toList bs.toList) (i : Nat) : VR ι (as.getD i undef) (bs.getD i undef) := by
  cases h : as.toList[i]? with
  | none =>
    have h2 := r.get_none h
    rw [Array.getElem?_toList] at h h2
    rw [Array.getD_eq_getD_getElem?, Array.getD_eq_getD_getElem?, h, h2]
    exact undef_rel ι
  | some v =>
    obtain ⟨v', h2, h3⟩ := r.get h
    rw [Array.getElem?_toList] at h h2
    rw [Array.getD_eq_getD_getElem?, Array.getD_eq_getD_getElem?, h, h2]
    exact h3

theorem eval_rel (G : Glob X ι) {tmps : Array Value} {a : Act} (ht : ∀ t, VR ι (tmps.getD t undef) (a.tmps.getD t undef)) {x : Operand} (hx : okX X.globs x = true) : VR ι (evalA tmps x) (a.eval x) := by
  cases x with
  | tmp t => exact ht t
  | const v => exact isFlat_refl ι hx
  | global g =>
    simp only [okX, decide_eq_true_eq] at hx
    obtain ⟨sz, ha⟩ := G g hx
    exact .ptr 0 ha
  | func f => exact .func rfl rfl (fun i a b ha => by simp at ha) rfl (fun i a b ha => by simp at ha)

def CallOk (X : Ctx) (call : CallF) : Prop := ∀ f args h v h', call f args h = some (v, h') → Holds X f args h v h'

/-- One operation. -/
theorem oneA_wp (C : Ok X) {call : CallF} (K : CallOk X call) (R : Rel ι h w) (G : Glob X ι) (hro : X.ro ≤ ι.length) {o : Oper} {tmps : Array Value} {a : Act} {v : Value} {h' : List Blk} (hl : oneA X call o tmps h = some (v, h'))
    (hx : ∀ x ∈ o.op.operands.toList, okX X.globs x = true → VR ι (evalA tmps x) (a.eval x)) {next : Act → World → Prop} {Q : Exit → Act → World → Prop}
    (hn : ∀ ι' w' v', Step X.ro ι w ι' w' → Rel ι' h' w' → VR ι' v v' → next (a.put o.dst v') w') : o.wp X.P a w next Q := by
  unfold oneA at hl
  split at hl
  case isFalse => simp at hl
  rename_i hok
  have hρ : ∀ x ∈ o.op.operands.toList, VR ι (evalA tmps x) (a.eval x) := fun x hxm => hx x hxm (List.all_eq_true.1 hok x hxm)
  unfold Oper.wp
  split at hl
  · rename_i v0 h0 ho
    simp only [Option.some.injEq, Prod.mk.injEq] at hl
    obtain ⟨rfl, rfl⟩ := hl
    obtain ⟨n, w', ι', h1, h2, h3, h4⟩ := opA_run C R hro hρ ho
    rw [h1]
    cases h4 with
    | value r => exact hn ι' w' _ h3 h2 r
  · rename_i h0 ho
    simp only [Option.some.injEq, Prod.mk.injEq] at hl
    obtain ⟨rfl, rfl⟩ := hl
    obtain ⟨n, w', ι', h1, h2, h3, h4⟩ := opA_run C R hro hρ ho
    rw [h1]
    cases h4 with
    | skip => exact hn ι' w' _ h3 h2 (undef_rel ι')
  · rename_i f args h0 ho
    obtain ⟨n, w', ι', h1, h2, h3, h4⟩ := opA_run C R hro hρ ho
    rw [h1]
    cases h4 with
    | @enter _ _ args' r =>
      have := K f args h0 v h' hl ι' w' args'.toList h2 (G.mono h3.le) (Nat.le_trans hro h3.len) r
      rw [Array.toArray_toList] at this
      refine Calls.mono this ?_
      rintro e w'' ⟨ι'', v', rfl, r2, s2, r3⟩
      exact hn ι'' w'' v' (h3.trans s2) r2 r3
  · simp at hl

theorem put_rel {tmps : Array Value} {a : Act} (t : TR ι tmps a) (dst : Option Tmp) {v v' : Value} (hv : VR ι v v') : TR ι (putA tmps dst v) (a.put dst v') := by
  cases dst with
  | none => exact t
  | some d =>
    refine ⟨?_, t.none⟩
    simp only [putA, Act.put, Array.toList_setIfInBounds]
    exact t.rel.set d hv

theorem VR.bool_iff {v v' : Value} (r : VR ι v v') (b : Bool) : v = .bool b ↔ v' = .bool b := by
  cases r <;> simp

theorem yielded_of (all : Array Oper) {tmps tmps' : Array Value} (j : Nat) (h : ∀ d, ((all[j]?).bind (·.dst)) = some d → (tmps[d]? = none ∧ tmps'[d]? = none) ∨ ∃ v v', tmps[d]? = some v ∧ tmps'[d]? = some v' ∧ VR ι v v') :
    yielded all tmps j = yielded all tmps' j := by
  unfold yielded
  cases hd : (all[j]?).bind (·.dst) with
  | none => rfl
  | some d =>
    simp only [Option.bind_some]
    rcases h d hd with ⟨h1, h2⟩ | ⟨v, v', h1, h2, r⟩
    · rw [h1, h2]
    · rw [h1, h2]
      cases r <;> rfl

theorem slot_of {as bs : Array Value} (r : VRL ι as.toList bs.toList) (d : Nat) : (as[d]? = none ∧ bs[d]? = none) ∨ ∃ v v', as[d]? = some v ∧ bs[d]? = some v' ∧ VR ι v v' := by
  cases h : as.toList[d]? with
  | none =>
    have h2 := r.get_none h
    rw [Array.getElem?_toList] at h h2
    exact .inl ⟨h, h2⟩
  | some v =>
    obtain ⟨v', h2, h3⟩ := r.get h
    rw [Array.getElem?_toList] at h h2
    exact .inr ⟨v, v', h, h2, h3⟩

theorem wanted_of (all : Array Oper) {tmps tmps' : Array Value} (o : Oper) (h : ∀ j want, o.guard = some (j, want) → yielded all tmps j = yielded all tmps' j) : Region.wanted o (yielded all tmps) = Region.wanted o (yielded all tmps') := by
  unfold Region.wanted
  cases hg : o.guard with
  | none => rfl
  | some gw => obtain ⟨g, want⟩ := gw; simp only [h g want hg]

theorem wanted_rel (all : Array Oper) {tmps : Array Value} {a : Act} (t : TR ι tmps a) (o : Oper) : Region.wanted o (yielded all tmps) = Region.wanted o (yielded all a.tmps) :=
  wanted_of all o fun j _ _ => yielded_of all j fun d _ => slot_of t.rel d

/-- Operations in the order of the text. -/
theorem opsA_wp (C : Ok X) {call : CallF} (K : CallOk X call) (all : Array Oper) {Q : Exit → Act → World → Prop} : ∀ (l : List Oper) (i : Nat) (tmps : Array Value) (h : List Blk) (t : Array Value) (h' : List Blk) (ι : Map) (w : World) (a : Act),
    all.toList.drop i = l → opsA X call all l tmps h = some (t, h') → Rel ι h w → Glob X ι → X.ro ≤ ι.length → TR ι tmps a →
    (∀ ι' w' a', Step X.ro ι w ι' w' → Rel ι' h' w' → TR ι' t a' → Q .normal a' w') → wpOps X.P all Q (List.range' i l.length) a w
  | [], i, tmps, h, t, h', ι, w, a, _, hl, R, G, hro, T, hq => by
    simp only [opsA, Option.some.injEq, Prod.mk.injEq] at hl
    obtain ⟨rfl, rfl⟩ := hl
    exact hq ι w a (.refl _ ι w) R T
  | o :: l, i, tmps, h, t, h', ι, w, a, hd, hl, R, G, hro, T, hq => by
    have ho : all[i]? = some o := by
      rw [← Array.getElem?_toList]
      have := congrArg (·[0]?) hd
      simpa using this
    have hd' : all.toList.drop (i + 1) = l := by
      have := congrArg List.tail hd
      simpa [List.tail_drop] using this
    have hr : List.range' i (o :: l).length = i :: List.range' (i + 1) l.length := by simp [List.range'_succ]
    rw [hr]
    simp only [wpOps, ho]
    simp only [opsA] at hl
    rw [wanted_rel all T o] at hl
    split at hl
    · rename_i hw
      rw [if_pos hw]
      left
      split at hl
      · rename_i v h1 h1e
        refine oneA_wp C K R G hro h1e (fun x _ hok => eval_rel G (fun t => T.rel.getD t) hok) ?_
        intro ι' w' v' s r rv
        exact opsA_wp C K all l (i + 1) _ _ t h' ι' w' _ hd' hl r (G.mono s.le) (Nat.le_trans hro s.len) (put_rel (T.mono s.le) o.dst rv)
          (fun ι'' w'' a'' s' r' t' => hq ι'' w'' a'' (s.trans s') r' t')
      · simp at hl
    · rename_i hw
      rw [if_neg hw]
      exact opsA_wp C K all l (i + 1) _ _ t h' ι w _ hd' hl R G hro (put_rel T o.dst (undef_rel ι)) hq

end Sx
end Go.Proofs.YtmfejegpnfbajaaGreatDoor
