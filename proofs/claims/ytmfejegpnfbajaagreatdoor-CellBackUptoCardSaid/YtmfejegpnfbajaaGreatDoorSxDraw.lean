/-
  The abstract machine: a region that draws its order.
-/
import Derived.Test.YtmfejegpnfbajaaGreatDoorSxRun
namespace Go.Proofs.YtmfejegpnfbajaaGreatDoor
namespace Sx

variable {X : Ctx} {ι : Map} {h : List Blk} {w : World}

/-! ### What comes ahead of an operation -/

theorem mask_fold (acc : List Nat) : ∀ (es : List Edge) (s i : Nat), (es.foldl (fun s e => if Region.binds .any e then s ||| 2 ^ e.on ||| acc.getD e.on 0 else s) s).testBit i = true →
    s.testBit i = true ∨ ∃ e ∈ es, Region.binds .any e = true ∧ (e.on = i ∨ (acc.getD e.on 0).testBit i = true)
  | [], s, i, hb => .inl hb
  | e :: es, s, i, hb => by
    simp only [List.foldl_cons] at hb
    rcases mask_fold acc es _ i hb with h1 | ⟨e', h1, h2⟩
    · split at h1
      · rename_i hbd
        simp only [Nat.testBit_or, Bool.or_eq_true, Nat.testBit_two_pow, decide_eq_true_eq] at h1
        rcases h1 with (h1 | h1) | h1
        · exact .inl h1
        · exact .inr ⟨e, by simp, hbd, .inl h1⟩
        · exact .inr ⟨e, by simp, hbd, .inr h1⟩
      · exact .inl h1
    · exact .inr ⟨e', by simp [h1], h2⟩

theorem masks_snoc (l : List Oper) (o : Oper) : masks (l ++ [o]) = masks l ++ [o.after.toList.foldl (fun s e => if Region.binds .any e then s ||| 2 ^ e.on ||| (masks l).getD e.on 0 else s) 0] := by
  unfold masks
  rw [List.foldl_append]
  rfl

theorem masks_spec (l : List Oper) : (masks l).length = l.length ∧ ∀ j i, ((masks l).getD j 0).testBit i = true → ∃ o, l[j]? = some o ∧ ∃ e ∈ o.after.toList, Region.binds .any e = true ∧ (e.on = i ∨ (e.on < j ∧ ((masks l).getD e.on 0).testBit i = true)) := by
  have key : ∀ (r : List Oper), (masks r.reverse).length = r.reverse.length ∧ ∀ j i, ((masks r.reverse).getD j 0).testBit i = true → ∃ o, r.reverse[j]? = some o ∧ ∃ e ∈ o.after.toList, Region.binds .any e = true ∧ (e.on = i ∨ (e.on < j ∧ ((masks r.reverse).getD e.on 0).testBit i = true)) := by
    intro r
    induction r with
    | nil => exact ⟨rfl, fun j i hb => by simp [masks] at hb⟩
    | cons o r ih =>
      rw [List.reverse_cons, masks_snoc]
      obtain ⟨hl, hs⟩ := ih
      refine ⟨by simp [hl], ?_⟩
      intro j i hb
      by_cases hj : j < r.reverse.length
      · have e1 : (masks r.reverse ++ [o.after.toList.foldl (fun s e => if Region.binds .any e then s ||| 2 ^ e.on ||| (masks r.reverse).getD e.on 0 else s) 0]).getD j 0 = (masks r.reverse).getD j 0 := by
          simp only [List.getD_eq_getElem?_getD]
          rw [List.getElem?_append_left (by rw [hl]; exact hj)]
        rw [e1] at hb
        obtain ⟨o', g1, e, g2, g3, g4⟩ := hs j i hb
        refine ⟨o', by rw [List.getElem?_append_left hj]; exact g1, e, g2, g3, ?_⟩
        rcases g4 with g4 | ⟨g4, g5⟩
        · exact .inl g4
        · refine .inr ⟨g4, ?_⟩
          simp only [List.getD_eq_getElem?_getD] at g5 ⊢
          rw [List.getElem?_append_left (by rw [hl]; omega)]
          exact g5
      · by_cases hj2 : j = r.reverse.length
        · subst hj2
          have e1 : (masks r.reverse ++ [o.after.toList.foldl (fun s e => if Region.binds .any e then s ||| 2 ^ e.on ||| (masks r.reverse).getD e.on 0 else s) 0]).getD r.reverse.length 0 = o.after.toList.foldl (fun s e => if Region.binds .any e then s ||| 2 ^ e.on ||| (masks r.reverse).getD e.on 0 else s) 0 := by
            simp only [List.getD_eq_getElem?_getD]
            rw [← hl]
            simp
          rw [e1] at hb
          rcases mask_fold _ _ _ _ hb with h0 | ⟨e, g2, g3, g4⟩
          · simp at h0
          · refine ⟨o, by simp, e, g2, g3, ?_⟩
            rcases g4 with g4 | g4
            · exact .inl g4
            · have hlt : e.on < r.reverse.length := by
                rw [← hl]
                rcases Nat.lt_or_ge e.on (masks r.reverse).length with hh | hh
                · exact hh
                · rw [List.getD_eq_getElem?_getD, List.getElem?_eq_none hh] at g4
                  simp at g4
              refine .inr ⟨hlt, ?_⟩
              simp only [List.getD_eq_getElem?_getD] at g4 ⊢
              rw [List.getElem?_append_left (by rw [hl]; exact hlt)]
              exact g4
        · exfalso
          rw [List.getD_eq_getElem?_getD, List.getElem?_eq_none (by simp [hl] at hj hj2 ⊢; omega)] at hb
          simp at hb
  have := key l.reverse
  rwa [List.reverse_reverse] at this

/-- A set of operations that holds with each one those that come ahead of it. -/
def Down (l : List Oper) (D : Nat → Prop) : Prop := ∀ (j : Nat) (o : Oper) (e : Edge), D j → l[j]? = some o → e ∈ o.after.toList → Region.binds .any e = true → D e.on

theorem Down.mask {l : List Oper} {D : Nat → Prop} (hD : Down l D) : ∀ (n j i : Nat), j < n → D j → ((masks l).getD j 0).testBit i = true → D i := by
  intro n
  induction n with
  | zero => intro j i hj; omega
  | succ n ih =>
    intro j i hj hd hb
    obtain ⟨o, h1, e, h2, h3, h4⟩ := (masks_spec l).2 j i hb
    have he := hD j o e hd h1 h2 h3
    rcases h4 with rfl | ⟨h4, h5⟩
    · exact he
    · exact ih e.on i (by omega) he h5

theorem mask_lt {l : List Oper} (hd : dag l = true) : ∀ (n j i : Nat), j < n → ((masks l).getD j 0).testBit i = true → i < j := by
  intro n
  induction n with
  | zero => intro j i hj; omega
  | succ n ih =>
    intro j i hj hb
    obtain ⟨o, h1, e, h2, h3, h4⟩ := (masks_spec l).2 j i hb
    have hlt : e.on < j := by
      unfold dag at hd
      rw [List.all_eq_true] at hd
      have := hd (o, j) (by rw [List.mem_zipIdx_iff_getElem?]; simpa using h1)
      simp only [List.all_eq_true, Bool.or_eq_true, Bool.not_eq_true', decide_eq_true_eq] at this
      rcases this e h2 with h | h
      · rw [h3] at h; simp at h
      · exact h
    rcases h4 with rfl | ⟨_, h5⟩
    · exact hlt
    · have := ih e.on i (by omega) h5
      omega

/-! ### The loud ones -/

theorem filter_at (p : Nat → Bool) (n i : Nat) (hi : i < n) (hp : p i = true) : ((List.range n).filter p)[((List.range i).filter p).length]? = some i := by
  have : List.range n = List.range i ++ (i :: List.range' (i + 1) (n - i - 1)) := by
    rw [List.range_eq_range', List.range_eq_range']
    have h1 : List.range' 0 n = List.range' 0 i ++ List.range' (0 + 1 * i) (n - i) := by
      rw [List.range'_append]; congr 1; omega
    have e : 0 + 1 * i = i := by omega
    have e2 : n - i = (n - i - 1) + 1 := by omega
    rw [e, e2, List.range'_succ] at h1
    exact h1
  rw [this, List.filter_append, List.getElem?_append_right (Nat.le_refl _), Nat.sub_self, List.filter_cons_of_pos hp]
  rfl

theorem filter_step (p : Nat → Bool) (i : Nat) : ((List.range (i + 1)).filter p).length = ((List.range i).filter p).length + (if p i then 1 else 0) := by
  rw [List.range_succ, List.filter_append, List.length_append]
  congr 1
  cases h : p i <;> simp [h]

theorem filter_lt (p : Nat → Bool) (n q i : Nat) (h : ((List.range n).filter p)[q]? = some i) : i < n ∧ p i = true ∧ q = ((List.range i).filter p).length := by
  have hm := List.mem_of_getElem? h
  rw [List.mem_filter, List.mem_range] at hm
  refine ⟨hm.1, hm.2, ?_⟩
  have h2 := filter_at p n i hm.1 hm.2
  have hq : q < ((List.range n).filter p).length := (List.getElem?_eq_some_iff.1 h).1
  have hnd : ((List.range n).filter p).Nodup := List.Nodup.sublist List.filter_sublist List.nodup_range
  exact (List.getElem?_inj hq hnd).1 (h.trans h2.symm)

theorem chain_get {ms : List Nat} : ∀ {ns : List Nat}, chain ms ns = true → ∀ (p q i j : Nat), p < q → ns[p]? = some i → ns[q]? = some j → (ms.getD j 0).testBit i = true
  | [], _, p, q, i, j, _, hp, _ => by simp at hp
  | a :: r, hc, p, q, i, j, hpq, hp, hq => by
    simp only [chain, Bool.and_eq_true] at hc
    cases q with
    | zero => omega
    | succ q =>
      simp only [List.getElem?_cons_succ] at hq
      cases p with
      | zero =>
        simp at hp
        subst hp
        exact List.all_eq_true.1 hc.1 j (List.mem_of_getElem? hq)
      | succ p =>
        simp only [List.getElem?_cons_succ] at hp
        exact chain_get hc.2 p q i j (by omega) hp hq

/-! ### The trace -/

def Tm (tmps : Array Value) (es : List Ent) (i : Nat) : Array Value := (es.take i).foldl (fun t e => putA t e.o.dst e.v) tmps
def Hm (h : List Blk) (es : List Ent) (i : Nat) : List Blk := (es.take i).foldl (fun _ e => e.h') h
def Im (id : Nat) (l : List Oper) (i : Nat) : Nat := (l.take i).foldl (fun n o => bump o n) id

theorem trace_spec {call : CallF} {all : Array Oper} : ∀ (l : List Oper) (id : Nat) (tmps : Array Value) (h : List Blk) (es : List Ent) (t : Array Value) (hl : List Blk), traceA X call all l id tmps h = some (es, t, hl) →
    es.length = l.length ∧ t = Tm tmps es l.length ∧ hl = Hm h es l.length ∧ ∀ (i : Nat) (e : Ent), es[i]? = some e → l[i]? = some e.o ∧ e.id = Im id l i ∧ e.tmps = Tm tmps es i ∧ e.wanted = Region.wanted e.o (yielded all e.tmps) ∧
      (e.wanted = true → stepD X call e.id e.o e.tmps (Hm h es i) = some (e.v, e.h')) ∧ (e.wanted = false → e.v = undef ∧ e.h' = Hm h es i)
  | [], id, tmps, h, es, t, hl, htr => by
    simp only [traceA, Option.some.injEq, Prod.mk.injEq] at htr
    obtain ⟨rfl, rfl, rfl⟩ := htr
    exact ⟨rfl, rfl, rfl, fun i e he => by simp at he⟩
  | o :: l, id, tmps, h, es, t, hl, htr => by
    have build : ∀ (e0 : Ent) (es' : List Ent), e0.o = o → e0.id = id → e0.tmps = tmps → e0.wanted = Region.wanted o (yielded all tmps) → (e0.wanted = true → stepD X call id o tmps h = some (e0.v, e0.h')) → (e0.wanted = false → e0.v = undef ∧ e0.h' = h) →
        traceA X call all l (bump o id) (putA tmps o.dst e0.v) e0.h' = some (es', t, hl) →
        (e0 :: es').length = (o :: l).length ∧ t = Tm tmps (e0 :: es') (o :: l).length ∧ hl = Hm h (e0 :: es') (o :: l).length ∧ ∀ (i : Nat) (e : Ent), (e0 :: es')[i]? = some e → (o :: l)[i]? = some e.o ∧ e.id = Im id (o :: l) i ∧ e.tmps = Tm tmps (e0 :: es') i ∧ e.wanted = Region.wanted e.o (yielded all e.tmps) ∧
          (e.wanted = true → stepD X call e.id e.o e.tmps (Hm h (e0 :: es') i) = some (e.v, e.h')) ∧ (e.wanted = false → e.v = undef ∧ e.h' = Hm h (e0 :: es') i) := by
      intro e0 es' h1 h2 h3 h4 h5 h6 h7
      obtain ⟨g1, g2, g3, g4⟩ := trace_spec l _ _ _ es' t hl h7
      refine ⟨by simp [g1], ?_, ?_, ?_⟩
      · rw [g2]; simp only [Tm, List.length_cons, List.take_succ_cons, List.foldl_cons, h1]
      · rw [g3]; simp only [Hm, List.length_cons, List.take_succ_cons, List.foldl_cons]
      · intro i e he
        cases i with
        | zero =>
          simp at he
          subst he
          refine ⟨by simp [h1], by simp [Im, h2], by simp [Tm, h3], by rw [h4, h1, h3], ?_, ?_⟩
          · intro hw; rw [h2, h1, h3]; exact h5 hw
          · intro hw; exact h6 hw
        | succ i =>
          simp only [List.getElem?_cons_succ] at he
          obtain ⟨k1, k2, k3, k4, k5, k6⟩ := g4 i e he
          refine ⟨by simpa using k1, ?_, ?_, k4, ?_, ?_⟩
          · rw [k2]; simp only [Im, List.take_succ_cons, List.foldl_cons]
          · rw [k3]; simp only [Tm, List.take_succ_cons, List.foldl_cons, h1]
          · simpa only [Hm, List.take_succ_cons, List.foldl_cons] using k5
          · simpa only [Hm, List.take_succ_cons, List.foldl_cons] using k6
    simp only [traceA] at htr
    split at htr
    · rename_i hw
      split at htr
      · rename_i v h1 hst
        split at htr
        · rename_i es' t' hl' hrec
          simp only [Option.some.injEq, Prod.mk.injEq] at htr
          obtain ⟨rfl, rfl, rfl⟩ := htr
          exact build ⟨o, true, id, tmps, v, h1⟩ es' rfl rfl rfl hw.symm (fun _ => hst) (fun hf => by simp at hf) hrec
        · simp at htr
      · simp at htr
    · rename_i hw
      split at htr
      · rename_i es' t' hl' hrec
        simp only [Option.some.injEq, Prod.mk.injEq] at htr
        obtain ⟨rfl, rfl, rfl⟩ := htr
        refine build ⟨o, false, id, tmps, undef, h⟩ es' rfl rfl rfl ?_ (fun hf => by simp at hf) (fun _ => ⟨rfl, rfl⟩) hrec
        simp only [Bool.not_eq_true] at hw
        exact hw.symm
      · simp at htr

/-! ### Quiet operations -/

theorem eqV_eq : ∀ (n : Nat) (a b : Value), eqV n a b = true → a = b := by
  have key : ∀ (f : Value → Value → Bool), (∀ a b, f a b = true → a = b) → ∀ (as bs : List Value), as.length = bs.length → (as.zip bs).all (fun x => f x.1 x.2) = true → as = bs := by
    intro f hf as
    induction as with
    | nil => intro bs hl _; cases bs with
      | nil => rfl
      | cons b bs => simp at hl
    | cons a as ih => intro bs hl ha; cases bs with
      | nil => simp at hl
      | cons b bs =>
        simp only [List.zip_cons_cons, List.all_cons, Bool.and_eq_true] at ha
        rw [hf a b ha.1, ih bs (by simpa using hl) ha.2]
  have str : ∀ (a b : ByteArray), (a.data == b.data) = true → a = b := by
    intro a b hq
    have hq := eq_of_beq hq
    cases a; cases b
    simp only at hq
    rw [hq]
  intro n
  induction n with
  | zero =>
    intro a b hq
    rw [eqV.eq_def] at hq
    split at hq
    · have hq := eq_of_beq hq; rw [hq]
    · simp only [Bool.and_eq_true, beq_iff_eq] at hq; rw [hq.1, hq.2]
    · rw [str _ _ hq]
    · rfl
    · rfl
    · have hq := eq_of_beq hq; rw [hq]
    · simp only [Bool.and_eq_true, beq_iff_eq] at hq; rw [hq.1.1, hq.1.2, hq.2]
    · have hq := eq_of_beq hq; rw [hq]
    · rename_i hn; cases hn
    · rename_i hn; cases hn
    · rename_i hn; cases hn
    · rename_i hn; cases hn
    · cases hq
  | succ n ih =>
    intro a b hq
    rw [eqV.eq_def] at hq
    split at hq
    · have hq := eq_of_beq hq; rw [hq]
    · simp only [Bool.and_eq_true, beq_iff_eq] at hq; rw [hq.1, hq.2]
    · rw [str _ _ hq]
    · rfl
    · rfl
    · have hq := eq_of_beq hq; rw [hq]
    · simp only [Bool.and_eq_true, beq_iff_eq] at hq; rw [hq.1.1, hq.1.2, hq.2]
    · have hq := eq_of_beq hq; rw [hq]
    · rename_i hn
      cases hn
      simp only [Bool.and_eq_true, beq_iff_eq] at hq; rw [hq.1, ih _ _ hq.2]
    · rename_i a b hn
      cases hn
      simp only [Bool.and_eq_true, beq_iff_eq] at hq
      have e1 := key _ ih a.toList b.toList (by simpa using hq.1) hq.2
      rw [Array.toList_inj] at e1
      rw [e1]
    · rename_i a b hn
      cases hn
      simp only [Bool.and_eq_true, beq_iff_eq] at hq
      have e1 := key _ ih a.toList b.toList (by simpa using hq.1) hq.2
      rw [Array.toList_inj] at e1
      rw [e1]
    · rename_i f a c g b d hn
      cases hn
      simp only [Bool.and_eq_true, beq_iff_eq, decide_eq_true_eq] at hq
      obtain ⟨⟨⟨⟨h1, h2⟩, h3⟩, h4⟩, h5⟩ := hq
      have e1 := key _ ih a.toList b.toList (by simpa using h2) h3
      have e2 := key _ ih c.toList d.toList (by simpa using h4) h5
      rw [Array.toList_inj] at e1 e2
      rw [h1, e1, e2]
    · cases hq

theorem quiet_op {X : Ctx} {ρ : Operand → Value} {o : Oper} {h : List Blk} {r : Res} {h' : List Blk} (hq : noisy o.op = false) (hl : opA X ρ o h = some (r, h')) : h' = h ∧ ∀ f l, r ≠ .enter f l := by
  have q : ∀ {v : Option Value}, quietV v h = some (r, h') → h' = h ∧ ∀ f l, r ≠ .enter f l := by
    intro v hv
    obtain ⟨u, _, rfl, rfl⟩ := quietV_inv hv
    exact ⟨rfl, by simp⟩
  have fl : ∀ {ρ o'}, (flatOp X.P ρ o').map (·, h) = some (r, h') → h' = h ∧ ∀ f l, r ≠ .enter f l := by
    intro ρ o' hf
    unfold flatOp at hf
    split at hf
    · split at hf
      · split at hf
        · simp at hf; exact ⟨hf.2.symm, by rw [← hf.1]; simp⟩
        · simp at hf
      · simp at hf; exact ⟨hf.2.symm, by rw [← hf.1]; simp⟩
      · simp at hf
    · simp at hf
  have fq : ∀ {ρ o'} {v : Option Value}, (match flatOp X.P ρ o' with | some r => some (r, h) | none => quietV v h) = some (r, h') → h' = h ∧ ∀ f l, r ≠ .enter f l := by
    intro ρ o' v hf
    split at hf
    · rename_i r' hr'
      exact fl (ρ := ρ) (o' := o') (by rw [hr']; exact hf)
    · exact q hf
  obtain ⟨dst, op, type, pos, after, guard⟩ := o
  cases op with
  | move x => simp only [opA, Option.some.injEq, Prod.mk.injEq] at hl; exact ⟨hl.2.symm, by rw [← hl.1]; simp⟩
  | assign x => simp only [opA, Option.some.injEq, Prod.mk.injEq] at hl; exact ⟨hl.2.symm, by rw [← hl.1]; simp⟩
  | pick c a b =>
    simp only [opA] at hl
    split at hl
    · simp only [Option.some.injEq, Prod.mk.injEq] at hl; exact ⟨hl.2.symm, by rw [← hl.1]; simp⟩
    · simp at hl
  | load t x => exact q hl
  | fieldAddr s x f => exact q hl
  | indexAddr t x i => exact q hl
  | lookup t x k ok => exact q hl
  | entry x => exact q hl
  | build t ps => exact q hl
  | makeFunc fn a b =>
    simp only [opA] at hl
    split at hl
    · simp only [Option.some.injEq, Prod.mk.injEq] at hl; exact ⟨hl.2.symm, by rw [← hl.1]; simp⟩
    · simp at hl
  | makeInterface t x =>
    simp only [opA] at hl
    split at hl
    · simp at hl
    · simp only [Option.some.injEq, Prod.mk.injEq] at hl; exact ⟨hl.2.symm, by rw [← hl.1]; simp⟩
    · simp at hl
  | extract x i =>
    simp only [opA] at hl
    split at hl
    · exact q hl
    · simp at hl
  | nilCheck x =>
    simp only [opA] at hl
    split at hl <;> first | (simp only [Option.some.injEq, Prod.mk.injEq] at hl; exact ⟨hl.2.symm, by rw [← hl.1]; simp⟩) | simp at hl
  | field t x f => exact fq hl
  | slice t x lo hi mx => exact fq hl
  | binOp op t x y yt => exact fq hl
  | typeAssert x xt t ok => exact fq hl
  | unOp op t x => exact fl hl
  | index t x i => exact fl hl
  | call c =>
    obtain ⟨callee, args, ats⟩ := c
    cases callee with
    | value f => simp [noisy] at hq
    | invoke r m => simp [noisy] at hq
    | builtin b =>
      cases b with
      | len =>
        simp only [opA] at hl
        split at hl
        · exact q hl
        · simp at hl
      | cap =>
        simp only [opA] at hl
        split at hl
        · exact q hl
        · simp at hl
      | max => exact fl hl
      | min => exact fl hl
      | _ => simp [noisy] at hq
  | _ => simp [noisy] at hq

theorem quiet_one {X : Ctx} {call : CallF} {o : Oper} {tmps : Array Value} {h : List Blk} {v : Value} {h' : List Blk} (hq : noisy o.op = false) (hl : oneA X call o tmps h = some (v, h')) : h' = h := by
  unfold oneA at hl
  split at hl
  case isFalse => simp at hl
  split at hl
  · rename_i v0 h0 ho
    simp only [Option.some.injEq, Prod.mk.injEq] at hl
    rw [← hl.2]; exact (quiet_op hq ho).1
  · rename_i h0 ho
    simp only [Option.some.injEq, Prod.mk.injEq] at hl
    rw [← hl.2]; exact (quiet_op hq ho).1
  · rename_i f args h0 ho
    exact absurd rfl ((quiet_op hq ho).2 f args)
  · simp at hl

end Sx
end Go.Proofs.YtmfejegpnfbajaaGreatDoor
