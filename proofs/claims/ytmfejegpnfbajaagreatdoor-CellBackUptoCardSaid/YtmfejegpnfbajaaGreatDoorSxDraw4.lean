/-
  The abstract machine: a region that draws its order: each step, and the whole.
-/
import Derived.Test.YtmfejegpnfbajaaGreatDoorSxDraw3
namespace Go.Proofs.YtmfejegpnfbajaaGreatDoor
namespace Sx

variable {X : Ctx} {call : CallF} {ops : Array Oper} {tmps : Array Value} {h0 bs : List Blk} {es : List Ent} {ι0 : Map} {w0 : World} {listed : Array Bool} {a : Act} {w : World} {ι : Map} {p : Nat}

theorem louds_nodup (l : List Oper) : (louds l).Nodup := List.Nodup.sublist List.filter_sublist List.nodup_range

theorem louds_loud {l : List Oper} {q i : Nat} (h : (louds l)[q]? = some i) : loud (l.getD i default).op = true := (filter_lt _ _ _ _ h).2.1

/-- A loud operation that may come up is the next one. -/
theorem RInv.phase (G : Reg X call ops tmps h0 bs es) (I : RInv X ops tmps h0 bs es ι0 w0 listed a w ι p) {i : Nat} {e : Ent} (he : es[i]? = some e) (hni : listed[i]? ≠ some true)
    (hpre : ∀ k, ((masks ops.toList).getD i 0).testBit k = true → listed[k]? = some true) (hl : loud e.o.op = true) : (louds ops.toList)[p]? = some i ∧ Hm (h0 ++ bs) es i = HP ops (h0 ++ bs) es p := by
  obtain ⟨g1, _⟩ := G.ent i e he
  have hil : i < es.length := (List.getElem?_eq_some_iff.1 he).1
  have ho : ops.toList.getD i default = e.o := by rw [List.getD_eq_getElem?_getD, g1]; rfl
  have hq := filter_at (fun j => loud (ops.toList.getD j default).op) ops.toList.length i (by rw [← G.len]; exact hil) (by rw [ho]; exact hl)
  have hh := G.heap i (by omega)
  generalize hc : ((List.range i).filter fun j => loud (ops.toList.getD j default).op).length = q at hq hh
  have hq' : (louds ops.toList)[q]? = some i := hq
  have hge : ¬ q < p := fun hlt => hni ((I.ph q i hq').2 hlt)
  have hqp : q = p := by
    rcases Nat.lt_or_ge p q with hlt | hle
    · exfalso
      obtain ⟨j, hj⟩ : ∃ j, (louds ops.toList)[p]? = some j := by
        have : q < (louds ops.toList).length := (List.getElem?_eq_some_iff.1 hq').1
        exact ⟨_, List.getElem?_eq_getElem (by omega)⟩
      have hb := chain_get G.chain p q j i hlt hj hq'
      have := (I.ph p j hj).1 (hpre j hb)
      omega
    · omega
  subst hqp
  exact ⟨hq', hh⟩

theorem RInv.op (C : Ok X) (K : CallOk X call) (G : Reg X call ops tmps h0 bs es) (I : RInv X ops tmps h0 bs es ι0 w0 listed a w ι p) (Gl : Glob X ι0) (hro : X.ro ≤ ι0.length) (hlen : ι0.length = h0.length)
    {Q : Exit → Act → World → Prop} {i : Nat} (hi : i ∈ Region.ready .any ops listed) {next : Act → World → Prop}
    (hn : ∀ a' w' ι' p', RInv X ops tmps h0 bs es ι0 w0 (listed.setIfInBounds i true) a' w' ι' p' → next a' w') : wpOp X.P ops Q i next a w := by
  unfold Region.ready at hi
  rw [List.mem_filter, List.mem_range] at hi
  obtain ⟨hi1, hi2⟩ := hi
  rw [Bool.and_eq_true] at hi2
  obtain ⟨hi2, hi3⟩ := hi2
  have hni : listed[i]? ≠ some true := by
    intro hh
    rw [Array.getD_eq_getD_getElem?, hh] at hi2
    simp at hi2
  have hil : i < es.length := by rw [G.len]; simpa using hi1
  obtain ⟨e, he⟩ : ∃ e, es[i]? = some e := ⟨_, List.getElem?_eq_getElem hil⟩
  obtain ⟨g1, g2, g3, g4, g5, g6⟩ := G.ent i e he
  have ho : ops[i]? = some e.o := by rw [← Array.getElem?_toList]; exact g1
  have hready : ∀ ed ∈ e.o.after.toList, Region.binds .any ed = true → listed[ed.on]? = some true := by
    intro ed hed hb
    rw [ho] at hi3
    simp only [Option.map_some, Option.getD_some] at hi3
    rw [← Array.all_toList, List.all_eq_true] at hi3
    have := hi3 ed hed
    rw [hb] at this
    simp only [Bool.not_true, Bool.false_or] at this
    rw [Array.getD_eq_getD_getElem?] at this
    cases hh : listed[ed.on]? with
    | none => rw [hh] at this; simp at this
    | some b => rw [hh] at this; simp at this; rw [this]
  have hpre : ∀ k, ((masks ops.toList).getD i 0).testBit k = true → listed[k]? = some true := by
    intro k hb
    obtain ⟨o, h1, ed, h2, h3, h4⟩ := (masks_spec ops.toList).2 i k hb
    rw [g1] at h1
    injection h1 with h1
    subst h1
    have hl := hready ed h2 h3
    rcases h4 with rfl | ⟨_, h5⟩
    · exact hl
    · exact I.down.mask (ed.on + 1) ed.on k (by omega) hl h5
  have look := fun (d : Nat) (hd : d ∈ e.o.looksAt ops) => I.look G he hni hready hd
  have hwant : Region.wanted e.o (yielded ops a.tmps) = e.wanted := by
    rw [g4]
    refine (wanted_of ops e.o ?_).symm
    intro j want hg
    refine yielded_of (ι := ι) ops j ?_
    intro d hd
    refine look d ?_
    unfold Oper.looksAt
    rw [hg]
    refine List.mem_append_right _ ?_
    simp only
    rw [hd]
    simp
  have hnotloud : loud e.o.op = false → ∀ q j, (louds ops.toList)[q]? = some j → ((listed[j]? = some true ∨ j = i) ↔ q < p) := by
    intro hl q j hq
    have := louds_loud hq
    have hji : j ≠ i := by
      rintro rfl
      rw [List.getD_eq_getElem?_getD, g1] at this
      simp only [Option.getD_some] at this
      rw [hl] at this; simp at this
    simp only [hji, or_false]
    exact I.ph q j hq
  have hloud : (louds ops.toList)[p]? = some i → ∀ q j, (louds ops.toList)[q]? = some j → ((listed[j]? = some true ∨ j = i) ↔ q < p + 1) := by
    intro hp q j hq
    have hqe : j = i ↔ q = p := by
      constructor
      · rintro rfl
        exact (List.getElem?_inj (List.getElem?_eq_some_iff.1 hq).1 (louds_nodup _)).1 (hq.trans hp.symm)
      · rintro rfl
        rw [hp] at hq
        injection hq with hq
        exact hq.symm
    rw [I.ph q j hq, hqe]
    omega
  have hnext : (louds ops.toList)[p]? = some i → HP ops (h0 ++ bs) es (p + 1) = e.h' := by
    intro hp
    unfold HP
    rw [List.getElem?_cons_succ, List.getElem?_map, hp]
    simp [he]
  unfold wpOp
  rw [ho]
  simp only [hwant]
  have hιlen : ι0.length ≤ ι.length := I.step.len
  cases hw : e.wanted with
  | false =>
    simp only [Bool.false_eq_true, if_false]
    obtain ⟨u1, u2⟩ := g6 hw
    cases hl : loud e.o.op with
    | true =>
      obtain ⟨q1, q2⟩ := I.phase G he hni hpre hl
      refine hn _ _ ι (p + 1) (I.more G he hready (Le.refl ι) (u1 ▸ undef_rel ι) ?_ I.step (fun _ _ _ _ _ h => h) (hloud q1) ?_)
      · rw [hnext q1, u2, q2]; exact I.rel
      · exact (List.getElem?_eq_some_iff.1 q1).1
    | false => exact hn _ _ ι p (I.more G he hready (Le.refl ι) (u1 ▸ undef_rel ι) I.rel I.step (fun _ _ _ _ _ h => h) (hnotloud hl) I.plen)
  | true =>
    simp only [if_true]
    left
    have hs := g5 hw
    have hsteady := G.steady i e he
    have hcompat : compat (masks ops.toList) i (louds ops.toList) p = true := by
      unfold compat
      rw [Bool.and_eq_true, List.all_eq_true, List.all_eq_true]
      constructor
      · intro j hj
        rw [Bool.not_eq_true']
        cases hb : ((masks ops.toList).getD j 0).testBit i with
        | false => rfl
        | true =>
          exfalso
          obtain ⟨q, hq⟩ := List.mem_iff_getElem?.1 hj
          rw [List.getElem?_take] at hq
          split at hq
          · rename_i hqp
            exact hni (I.down.mask (j + 1) j i (by omega) ((I.ph q j hq).2 hqp) hb)
          · simp at hq
      · intro j hj
        rw [Bool.not_eq_true']
        cases hb : ((masks ops.toList).getD i 0).testBit j with
        | false => rfl
        | true =>
          exfalso
          obtain ⟨q, hq⟩ := List.mem_iff_getElem?.1 hj
          rw [List.getElem?_drop] at hq
          have := (I.ph _ j hq).1 (hpre j hb)
          omega
    have hHP : ((h0 ++ bs) :: (louds ops.toList).map fun i => ((es[i]?).map (·.h')).getD [])[p]? = some (HP ops (h0 ++ bs) es p) := by
      unfold HP
      have : p < ((h0 ++ bs) :: (louds ops.toList).map fun i => ((es[i]?).map (·.h')).getD []).length := by
        simp; have := I.plen; omega
      rw [List.getElem?_eq_getElem this]
      rfl
    have hquiet : loud e.o.op = false → (match allocT e.o.op with
        | some t => still X.P t (HP ops (h0 ++ bs) es p)[e.id]?
        | none => match oneA X call e.o e.tmps (HP ops (h0 ++ bs) es p) with
          | some (v, _) => eqV 8 v e.v
          | none => false) = true := by
      intro hl
      unfold steady at hsteady
      rw [hl, hw] at hsteady
      simp only [Bool.not_true, Bool.false_or] at hsteady
      rw [List.all_eq_true] at hsteady
      have := hsteady p (List.mem_range.2 (by have := I.plen; omega))
      rw [hcompat, hHP] at this
      simp only [Bool.not_true, Bool.false_or] at this
      exact this
    have hoperand : ∀ x ∈ e.o.op.operands.toList, okX X.globs x = true → VR ι (evalA e.tmps x) (a.eval x) := by
      intro x hx hok
      cases x with
      | tmp t =>
        have hd : t ∈ e.o.looksAt ops := List.mem_append_left _ (List.mem_filterMap.2 ⟨.tmp t, hx, rfl⟩)
        show VR ι (e.tmps.getD t undef) (a.tmps.getD t undef)
        rw [Array.getD_eq_getD_getElem?, Array.getD_eq_getD_getElem?]
        rcases look t hd with ⟨h1, h2⟩ | ⟨v, v', h1, h2, r⟩
        · rw [h1, h2]; exact undef_rel ι
        · rw [h1, h2]; exact r
      | const v => exact isFlat_refl ι hok
      | global g =>
        simp only [okX, decide_eq_true_eq] at hok
        obtain ⟨sz, ha⟩ := (Gl.mono I.step.le) g hok
        exact .ptr 0 ha
      | func f => exact .func rfl rfl (fun i a b ha => by simp at ha) rfl (fun i a b ha => by simp at ha)
    unfold stepD at hs
    cases hal : allocT e.o.op with
    | some t =>
      have hl : loud e.o.op = false := by unfold loud; rw [hal]; simp
      have hq := hquiet hl
      rw [hal] at hq hs
      simp only [Option.some.injEq, Prod.mk.injEq] at hs hq
      obtain ⟨z, hz1, hz2⟩ := still_spec hq
      have hop : e.o.op = .alloc t := by
        cases hh : e.o.op <;> rw [hh] at hal <;> simp [allocT] at hal
        rw [hal]
      obtain ⟨zv, r1, r2⟩ := zeroT_run hz1 w
      have hun := I.new i e he (by rw [hal]; rfl) hni
      have hid : ι0.length ≤ e.id := by
        rw [hlen, g2]
        exact (fresh_len ops.toList bs h0.length i G.fresh (by rw [← G.len]; omega)).1
      have hrel := I.rel.born (sz := z.length) hun hz2 (.cells z.toArray t) ⟨z.toArray, (0, 0), heap_alloc_self w _, by simp, Nat.le_refl _, fun _ => rfl, by simp, by
        simpa using (VRL.flat_self (zeroT_flat hz1))⟩
      have hat : At (ι.set e.id (some (w.heap.size, z.length))) e.id w.heap.size z.length := by
        unfold At
        rw [List.getElem?_set_self (List.getElem?_eq_some_iff.1 hun).1]
      unfold Oper.wp
      have hrun : (execOp a.eval e.o).run X.P w = .ok (.value (.pointer (some ⟨w.heap.size, 0, none⟩))) (w.alloc (.cells z.toArray t)) := by
        simp only [execOp, hop, Instr.alloc, Sem.run_bind, r1, Result.andThen_ok, newVar, newRow_run, r2, Sem.run_pure]
      rw [hrun]
      show next (a.put e.o.dst _) _
      refine hn _ _ _ p (I.more G he hready (Le.set hun _) ?_ hrel (I.step.born hro hun hid _) ?_ (hnotloud hl) I.plen)
      · rw [← hs.1]; exact .ptr 0 hat
      · intro j e' hje hja hji hnone
        have hne : e.id ≠ e'.id := by
          obtain ⟨k1, k2, _⟩ := G.ent j e' hje
          rw [g2, k2]
          rcases Nat.lt_or_ge i j with hlt | hge
          · have := Im_lt (id := h0.length) g1 (by rw [hal]; rfl) hlt; omega
          · have := Im_lt (id := h0.length) k1 hja (show j < i by omega); omega
        rw [List.getElem?_set_ne hne]
        exact hnone
    | none =>
      rw [hal] at hs
      simp only at hs
      cases hl : loud e.o.op with
      | true =>
        obtain ⟨q1, q2⟩ := I.phase G he hni hpre hl
        rw [q2] at hs
        refine oneA_wp C K I.rel (Gl.mono I.step.le) (Nat.le_trans hro hιlen) hs hoperand ?_
        intro ι' w' v' s r rv
        refine hn _ _ ι' (p + 1) (I.more G he hready s.le rv ?_ (I.step.trans s) ?_ (hloud q1) ?_)
        · rw [hnext q1]; exact r
        · intro j e' _ _ _ hnone
          rw [s.pre _ (List.getElem?_eq_some_iff.1 hnone).1]
          exact hnone
        · exact (List.getElem?_eq_some_iff.1 q1).1
      | false =>
        have hq := hquiet hl
        rw [hal] at hq
        simp only at hq
        split at hq
        · rename_i v hx hone
          have hv := eqV_eq 8 _ _ hq
          subst hv
          have hnoisy : noisy e.o.op = false := by
            unfold loud at hl
            rw [hal] at hl
            simpa using hl
          have := quiet_one hnoisy hone
          subst this
          refine oneA_wp C K I.rel (Gl.mono I.step.le) (Nat.le_trans hro hιlen) hone hoperand ?_
          intro ι' w' v' s r rv
          refine hn _ _ ι' p (I.more G he hready s.le rv r (I.step.trans s) ?_ (hnotloud hl) I.plen)
          intro j e' _ _ _ hnone
          rw [s.pre _ (List.getElem?_eq_some_iff.1 hnone).1]
          exact hnone
        · simp at hq

theorem filter_less {p q : Nat → Bool} : ∀ (l : List Nat), (∀ x ∈ l, q x = true → p x = true) → (∃ x ∈ l, p x = true ∧ q x = false) → (l.filter q).length < (l.filter p).length
  | [], _, ⟨x, hx, _⟩ => by simp at hx
  | a :: l, hpq, ⟨x, hx, hp, hq⟩ => by
    have le : (l.filter q).length ≤ (l.filter p).length := by
      clear hx
      induction l with
      | nil => simp
      | cons b l ih =>
        have := ih (fun x hx => hpq x (by simp at hx ⊢; rcases hx with h | h; exact .inl h; exact .inr (.inr h)))
        simp only [List.filter_cons]
        cases hqb : q b with
        | true => rw [hpq b (by simp) hqb]; simp; exact this
        | false => cases p b <;> simp <;> omega
    simp only [List.filter_cons]
    rcases List.mem_cons.1 hx with rfl | hx
    · rw [hp, hq]; simp; omega
    · have := filter_less l (fun y hy => hpq y (by simp [hy])) ⟨x, hx, hp, hq⟩
      cases hqa : q a with
      | true => rw [hpq a (by simp) hqa]; simp; exact this
      | false => cases p a <;> simp <;> omega

theorem all_any (C : Ok X) (K : CallOk X call) (G : Reg X call ops tmps h0 bs es) (Gl : Glob X ι0) (hro : X.ro ≤ ι0.length) (hlen : ι0.length = h0.length) {Q : Exit → Act → World → Prop}
    (hq : ∀ a' w' ι' p', (∀ i, i < es.length → ∃ l : Array Bool, RInv X ops tmps h0 bs es ι0 w0 l a' w' ι' p' ∧ (∀ j, j < es.length → l[j]? = some true)) → (∃ l : Array Bool, RInv X ops tmps h0 bs es ι0 w0 l a' w' ι' p' ∧ (∀ j, j < es.length → l[j]? = some true)) → Q .normal a' w') :
    ∀ (fuel : Nat) (listed : Array Bool) (a : Act) (w : World) (ι : Map) (p : Nat), ((List.range ops.size).filter fun i => !listed.getD i true).length ≤ fuel → RInv X ops tmps h0 bs es ι0 w0 listed a w ι p →
      wpAny X.P .any ops Q fuel listed a w := by
  have hend : ∀ (listed : Array Bool) (a : Act) (w : World) (ι : Map) (p : Nat), RInv X ops tmps h0 bs es ι0 w0 listed a w ι p → Region.ready .any ops listed = [] → Q .normal a w := by
    intro listed a w ι p I hr
    have hall : ∀ (n j : Nat), j < n → j < es.length → listed[j]? = some true := by
      intro n
      induction n with
      | zero => intro j hj; omega
      | succ n ih =>
        intro j hj hjl
        cases hb : listed[j]? with
        | none => rw [Array.getElem?_eq_none_iff, I.size, ← G.len] at hb; omega
        | some b =>
          cases b with
          | true => rfl
          | false =>
            exfalso
            obtain ⟨e, he⟩ : ∃ e, es[j]? = some e := ⟨_, List.getElem?_eq_getElem hjl⟩
            obtain ⟨g1, _⟩ := G.ent j e he
            have ho : ops[j]? = some e.o := by rw [← Array.getElem?_toList]; exact g1
            have hmem : j ∈ Region.ready .any ops listed := by
              unfold Region.ready
              rw [List.mem_filter, List.mem_range, Bool.and_eq_true]
              refine ⟨(Array.getElem?_eq_some_iff.1 ho).1, ?_, ?_⟩
              · rw [Array.getD_eq_getD_getElem?, hb]; rfl
              · rw [ho]
                simp only [Option.map_some, Option.getD_some]
                rw [← Array.all_toList, List.all_eq_true]
                intro ed hed
                cases hbd : Region.binds .any ed with
                | false => rfl
                | true =>
                  simp only [Bool.not_true, Bool.false_or]
                  have hlt : ed.on < j := by
                    have hd := G.dag
                    unfold Sx.dag at hd
                    rw [List.all_eq_true] at hd
                    have := hd (e.o, j) (by rw [List.mem_zipIdx_iff_getElem?]; simpa using g1)
                    simp only [List.all_eq_true, Bool.or_eq_true, Bool.not_eq_true', decide_eq_true_eq] at this
                    rcases this ed hed with h | h
                    · rw [hbd] at h; simp at h
                    · exact h
                  have := ih ed.on (by omega) (by omega)
                  rw [Array.getD_eq_getD_getElem?, this]; rfl
            rw [hr] at hmem
            simp at hmem
    have hex : ∃ l : Array Bool, RInv X ops tmps h0 bs es ι0 w0 l a w ι p ∧ (∀ j, j < es.length → l[j]? = some true) := ⟨listed, I, fun j hj => hall (j + 1) j (by omega) hj⟩
    exact hq a w ι p (fun _ _ => hex) hex
  intro fuel
  induction fuel with
  | zero =>
    intro listed a w ι p hc I
    have hr : Region.ready .any ops listed = [] := by
      have h0 : (List.range ops.size).filter (fun i => !listed.getD i true) = [] := List.eq_nil_of_length_eq_zero (by omega)
      unfold Region.ready
      rw [List.filter_eq_nil_iff] at h0 ⊢
      intro x hx hh
      rw [Bool.and_eq_true] at hh
      exact h0 x hx hh.1
    exact ⟨hr, hend listed a w ι p I hr⟩
  | succ fuel ih =>
    intro listed a w ι p hc I
    refine ⟨hend listed a w ι p I, ?_⟩
    intro i hi
    refine I.op C K G Gl hro hlen hi ?_
    intro a' w' ι' p' I'
    refine ih _ a' w' ι' p' ?_ I'
    have hi' := hi
    unfold Region.ready at hi'
    rw [List.mem_filter, Bool.and_eq_true] at hi'
    have hlt : i < listed.size := by
      rw [I.size]
      have := List.mem_range.1 hi'.1
      simpa using this
    have := filter_less (p := fun i => !listed.getD i true) (q := fun j => !(listed.setIfInBounds i true).getD j true) (List.range ops.size) (by
      intro x _ hx
      by_cases hxi : x = i
      · subst hxi
        simp [Array.getD_eq_getD_getElem?, hlt] at hx
      · rw [Array.getD_eq_getD_getElem?, Array.getElem?_setIfInBounds_ne (fun e => hxi e.symm), ← Array.getD_eq_getD_getElem?] at hx
        exact hx) ⟨i, hi'.1, hi'.2.1, by simp [Array.getD_eq_getD_getElem?, hlt]⟩
    omega

/-- A region that draws its order. -/
theorem drawA_wp (C : Ok X) (K : CallOk X call) {id : Nat} {t : Array Value} {h' : List Blk} (hl : drawA X call ops tmps h0 = some (t, h')) (R : Rel ι0 h0 w0) (Gl : Glob X ι0) (hro : X.ro ≤ ι0.length) (T : TR ι0 tmps a)
    {Q : Exit → Act → World → Prop} (hq : ∀ ι' w' a', Step X.ro ι0 w0 ι' w' → Rel ι' h' w' → TR ι' t a' → Q .normal a' w') : (Code.region id ops true).wp X.P Q a w0 := by
  unfold drawA at hl
  dsimp only at hl
  split at hl
  case isFalse => simp at hl
  rename_i hcond
  simp only [Bool.and_eq_true] at hcond
  obtain ⟨⟨c1, c2⟩, c3⟩ := hcond
  split at hl
  case h_2 => simp at hl
  rename_i bs hf
  split at hl
  case h_2 => simp at hl
  rename_i es t' hl' htr
  split at hl
  case isFalse => simp at hl
  rename_i hst
  simp only [Option.some.injEq, Prod.mk.injEq] at hl
  obtain ⟨rfl, rfl⟩ := hl
  simp only [Bool.and_eq_true, List.all_eq_true] at hst
  obtain ⟨s1, s2⟩ := hst
  obtain ⟨k1, k2, k3, k4⟩ := trace_spec _ _ _ _ es t' hl' htr
  have G : Reg X call ops tmps h0 bs es := ⟨c1, c2, c3, hf, k1, k4, fun i e he => s1 (e, i) (by rw [List.mem_zipIdx_iff_getElem?]; simpa using he), fun i e he => by
    have := s2 e (List.mem_of_getElem? he)
    rwa [Bool.or_eq_true] at this⟩
  refine wp_region_any C.mixed ?_
  have hnone : ∀ i : Nat, (Array.replicate ops.size false)[i]? ≠ some true := by
    intro i hh
    rw [Array.getElem?_replicate] at hh
    split at hh <;> simp at hh
  have I : RInv X ops tmps h0 bs es ι0 w0 (Array.replicate ops.size false) a w0.drew (ι0 ++ List.replicate bs.length none) 0 := by
    refine ⟨by simp, ?_, ?_, Nat.zero_le _, R.drew.pad bs, ?_, ?_, ?_, T.none, (Step.pad X.ro ι0 w0 bs.length).drew⟩
    · intro j o e hj; exact absurd hj (hnone j)
    · intro q i _
      constructor
      · intro hh; exact absurd hh (hnone i)
      · intro hh; omega
    · intro i e he hal _
      obtain ⟨g1, g2, _⟩ := G.ent i e he
      have := fresh_len ops.toList bs h0.length i hf (by rw [← k1]; have := (List.getElem?_eq_some_iff.1 he).1; omega)
      rw [← g2] at this
      rw [g1] at this
      simp only [Option.bind_some, hal, if_true] at this
      rw [List.getElem?_append_right (by rw [R.len]; omega), List.getElem?_replicate, if_pos (by rw [R.len]; omega)]
    · have := T.rel.1
      simpa using this.symm
    · intro d v v' hv hv'
      right
      refine ⟨fun i e hi => absurd hi (hnone i), ?_⟩
      exact (T.rel.2 d v v' (by simpa using hv) (by simpa using hv')).mono (Le.append ι0 _)
  refine all_any C K G Gl hro R.len ?_ ops.size _ a w0.drew _ 0 ?_ I
  · intro a' w' ι' p' _ hex
    obtain ⟨l, I', hall⟩ := hex
    have hp : p' = (louds ops.toList).length := by
      rcases Nat.lt_or_ge p' (louds ops.toList).length with hlt | hge
      · exfalso
        have hj : (louds ops.toList)[p']? = some (louds ops.toList)[p'] := List.getElem?_eq_getElem hlt
        have := (I'.ph p' _ hj).1 (hall _ (by rw [k1]; exact (filter_lt _ _ _ _ hj).1))
        omega
      · have := I'.plen; omega
    have hheap : HP ops (h0 ++ bs) es p' = hl' := by
      rw [k3, ← k1, G.heap es.length (Nat.le_refl _), hp, k1]
      rfl
    refine hq ι' w' a' I'.step (hheap ▸ I'.rel) ⟨?_, I'.defers⟩
    rw [k2]
    have hss : (Tm tmps es ops.toList.length).toList.length = a'.tmps.toList.length := by
      have h1 := Tm_size tmps es ops.toList.length (Nat.le_of_eq k1.symm)
      have h2 := I'.ssize
      simp only [Array.length_toList] at *
      omega
    refine ⟨hss, ?_⟩
    intro d v v' hv hv'
    rw [Array.getElem?_toList] at hv hv'
    have hsz : d < tmps.size := by rw [← I'.ssize]; exact (Array.getElem?_eq_some_iff.1 hv').1
    have h1 : tmps[d]? = some tmps[d] := Array.getElem?_eq_getElem hsz
    rcases I'.slot d _ v' h1 hv' with ⟨i, e, _, j2, j3, j4⟩ | ⟨j1, j2⟩
    · obtain ⟨o1, _⟩ := G.ent i e j2
      rw [Tm_some tmps es d i e j2 j3 hsz _ (Nat.le_of_eq k1.symm) (by rw [← k1]; exact (List.getElem?_eq_some_iff.1 j2).1) (by
        intro k e' _ hki hke
        obtain ⟨o2, _⟩ := G.ent k e' hke
        exact (slots_get c2 o1 o2 (fun e => hki e.symm) j3).1)] at hv
      injection hv with hv
      exact hv ▸ j4
    · rw [Tm_none tmps es d _ (Nat.le_of_eq k1.symm) (by
        intro k e' hk hke
        exact j1 k e' (hall k (by rw [k1]; exact hk)) hke), h1] at hv
      injection hv with hv
      exact hv ▸ j2
  · refine Nat.le_trans (List.length_filter_le _ _) ?_
    simp

end Sx
end Go.Proofs.YtmfejegpnfbajaaGreatDoor
