/-
  The abstract machine: a region that draws its order: the invariant, and the end.
-/
import Derived.Test.YtmfejegpnfbajaaGreatDoorSxDraw2
namespace Go.Proofs.YtmfejegpnfbajaaGreatDoor
namespace Sx

/-- What stands of a region that draws its order. -/
structure Reg (X : Ctx) (call : CallF) (ops : Array Oper) (tmps : Array Value) (h0 : List Blk) (bs : List Blk) (es : List Ent) : Prop where
  dag : dag ops.toList = true
  slots : slots ops.toList (masks ops.toList) = true
  chain : chain (masks ops.toList) (louds ops.toList) = true
  fresh : fresh X.P ops.toList = some bs
  len : es.length = ops.toList.length
  ent : ∀ (i : Nat) (e : Ent), es[i]? = some e → ops.toList[i]? = some e.o ∧ e.id = Im h0.length ops.toList i ∧ e.tmps = Tm tmps es i ∧ e.wanted = Region.wanted e.o (yielded ops e.tmps) ∧
      (e.wanted = true → stepD X call e.id e.o e.tmps (Hm (h0 ++ bs) es i) = some (e.v, e.h')) ∧ (e.wanted = false → e.v = undef ∧ e.h' = Hm (h0 ++ bs) es i)
  steady : ∀ (i : Nat) (e : Ent), es[i]? = some e → steady X call (masks ops.toList) (louds ops.toList) ((h0 ++ bs) :: (louds ops.toList).map fun i => ((es[i]?).map (·.h')).getD []) i e = true
  want : ∀ (i : Nat) (e : Ent), es[i]? = some e → e.wanted = true ∨ (allocT e.o.op).isNone = true

variable {X : Ctx} {call : CallF} {ops : Array Oper} {tmps : Array Value} {h0 bs : List Blk} {es : List Ent}

/-- The heap where the first p loud ones are done. -/
def HP (ops : Array Oper) (h : List Blk) (es : List Ent) (p : Nat) : List Blk := ((h :: (louds ops.toList).map fun i => ((es[i]?).map (·.h')).getD [])[p]?).getD []

theorem Reg.heap (G : Reg X call ops tmps h0 bs es) : ∀ i, i ≤ es.length → Hm (h0 ++ bs) es i = HP ops (h0 ++ bs) es (((List.range i).filter fun j => loud (ops.toList.getD j default).op).length)
  | 0, _ => rfl
  | i + 1, hi => by
    have he : es[i]? = some es[i] := List.getElem?_eq_getElem (by omega)
    obtain ⟨g1, g2, g3, g4, g5, g6⟩ := G.ent i _ he
    have ho : ops.toList.getD i default = es[i].o := by rw [List.getD_eq_getElem?_getD, g1]; rfl
    rw [Hm_succ he, filter_step]
    have ih := G.heap i (by omega)
    cases hl : loud es[i].o.op with
    | true =>
      rw [ho, hl]
      simp only [if_true]
      have hn := filter_at (fun j => loud (ops.toList.getD j default).op) ops.toList.length i (by rw [← G.len]; omega) (by rw [ho]; exact hl)
      unfold HP
      rw [List.getElem?_cons_succ, List.getElem?_map]
      unfold louds
      rw [hn]
      simp [he]
    | false =>
      rw [ho, hl]
      simp only [Bool.false_eq_true, if_false, Nat.add_zero]
      rw [← ih]
      cases hw : es[i].wanted with
      | false => exact (g6 hw).2
      | true =>
        have hs := g5 hw
        unfold stepD at hs
        split at hs
        · simp only [Option.some.injEq, Prod.mk.injEq] at hs
          exact hs.2.symm
        · rename_i hal
          have hq : noisy es[i].o.op = false := by
            unfold loud at hl
            rw [hal] at hl
            simpa using hl
          exact quiet_one hq hs

structure RInv (X : Ctx) (ops : Array Oper) (tmps : Array Value) (h0 bs : List Blk) (es : List Ent) (ι0 : Map) (w0 : World) (listed : Array Bool) (a : Act) (w : World) (ι : Map) (p : Nat) : Prop where
  size : listed.size = ops.toList.length
  down : Down ops.toList fun j => listed[j]? = some true
  ph : ∀ q i, (louds ops.toList)[q]? = some i → (listed[i]? = some true ↔ q < p)
  plen : p ≤ (louds ops.toList).length
  rel : Rel ι (HP ops (h0 ++ bs) es p) w
  new : ∀ (i : Nat) (e : Ent), es[i]? = some e → (allocT e.o.op).isSome = true → listed[i]? ≠ some true → ι[e.id]? = some none
  ssize : a.tmps.size = tmps.size
  slot : ∀ d v v', tmps[d]? = some v → a.tmps[d]? = some v' → (∃ (i : Nat) (e : Ent), listed[i]? = some true ∧ es[i]? = some e ∧ e.o.dst = some d ∧ VR ι e.v v') ∨ ((∀ (i : Nat) (e : Ent), listed[i]? = some true → es[i]? = some e → e.o.dst ≠ some d) ∧ VR ι v v')
  defers : a.defers = []
  step : Step X.ro ι0 w0 ι w

theorem RInv.look (G : Reg X call ops tmps h0 bs es) {ι0 : Map} {w0 : World} {listed : Array Bool} {a : Act} {w : World} {ι : Map} {p : Nat} (I : RInv X ops tmps h0 bs es ι0 w0 listed a w ι p) {i : Nat} {e : Ent} (he : es[i]? = some e)
    (hni : listed[i]? ≠ some true) (hready : ∀ ed ∈ e.o.after.toList, Region.binds .any ed = true → listed[ed.on]? = some true) {d : Nat} (hd : d ∈ e.o.looksAt ops) :
    (e.tmps[d]? = none ∧ a.tmps[d]? = none) ∨ ∃ v v', e.tmps[d]? = some v ∧ a.tmps[d]? = some v' ∧ VR ι v v' := by
  obtain ⟨g1, _, g3, _⟩ := G.ent i e he
  have hil : i < es.length := (List.getElem?_eq_some_iff.1 he).1
  have hpre : ∀ k, ((masks ops.toList).getD i 0).testBit k = true → listed[k]? = some true := by
    intro k hb
    obtain ⟨o, h1, ed, h2, h3, h4⟩ := (masks_spec ops.toList).2 i k hb
    rw [g1] at h1
    injection h1 with h1
    subst h1
    have hl := hready ed h2 h3
    rcases h4 with rfl | ⟨_, h5⟩
    · exact hl
    · exact I.down.mask (ed.on + 1) ed.on k (by omega) hl h5
  have hlook : d ∈ e.o.looksAt ops.toList.toArray := by simpa using hd
  rw [g3]
  by_cases hsz : d < tmps.size
  · right
    have h1 : tmps[d]? = some tmps[d] := Array.getElem?_eq_getElem hsz
    have h2 : a.tmps[d]? = some (a.tmps[d]'(by rw [I.ssize]; exact hsz)) := Array.getElem?_eq_getElem _
    rcases I.slot d _ _ h1 h2 with ⟨j, e', k1, k2, k3, k4⟩ | ⟨k1, k2⟩
    · have hji : j ≠ i := fun e => hni (e ▸ k1)
      obtain ⟨o1, _⟩ := G.ent j e' k2
      have hs := (slots_get G.slots o1 g1 hji k3).2 hlook
      have hlt : j < i := by
        rcases hs with hs | hs
        · exact mask_lt G.dag (i + 1) i j (by omega) hs
        · exact absurd (I.down.mask (j + 1) j i (by omega) k1 hs) hni
      refine ⟨e'.v, _, ?_, h2, k4⟩
      refine Tm_some tmps es d j e' k2 k3 hsz i (by omega) hlt ?_
      intro k e'' hk hkj hke
      obtain ⟨o2, _⟩ := G.ent k e'' hke
      exact (slots_get G.slots o1 o2 (fun e => hkj e.symm) k3).1
    · refine ⟨tmps[d], _, ?_, h2, k2⟩
      rw [Tm_none tmps es d i (by omega) ?_]
      · exact h1
      intro k e'' hk hke hkd
      obtain ⟨o2, _⟩ := G.ent k e'' hke
      have hs := (slots_get G.slots o2 g1 (by omega) hkd).2 hlook
      rcases hs with hs | hs
      · exact k1 k e'' (hpre k hs) hke hkd
      · have := mask_lt G.dag (k + 1) k i (by omega) hs
        omega
  · left
    constructor
    · rw [Array.getElem?_eq_none_iff, Tm_size tmps es i (by omega)]; omega
    · rw [Array.getElem?_eq_none_iff, I.ssize]; omega

/-- One operation more is done. -/
theorem RInv.more (G : Reg X call ops tmps h0 bs es) {ι0 : Map} {w0 : World} {listed : Array Bool} {a : Act} {w : World} {ι : Map} {p : Nat} (I : RInv X ops tmps h0 bs es ι0 w0 listed a w ι p) {i : Nat} {e : Ent} (he : es[i]? = some e)
    (hready : ∀ ed ∈ e.o.after.toList, Region.binds .any ed = true → listed[ed.on]? = some true)
    {ι' : Map} {w' : World} {v' : Value} {p' : Nat} (hle : Le ι ι') (hv : VR ι' e.v v') (hrel : Rel ι' (HP ops (h0 ++ bs) es p') w') (hst : Step X.ro ι0 w0 ι' w')
    (hnew : ∀ (j : Nat) (e' : Ent), es[j]? = some e' → (allocT e'.o.op).isSome = true → j ≠ i → ι[e'.id]? = some none → ι'[e'.id]? = some none)
    (hph : ∀ q j, (louds ops.toList)[q]? = some j → ((listed[j]? = some true ∨ j = i) ↔ q < p')) (hpl : p' ≤ (louds ops.toList).length) :
    RInv X ops tmps h0 bs es ι0 w0 (listed.setIfInBounds i true) (a.put e.o.dst v') w' ι' p' := by
  obtain ⟨g1, _⟩ := G.ent i e he
  have hi : i < listed.size := by rw [I.size, ← G.len]; exact (List.getElem?_eq_some_iff.1 he).1
  have hD : ∀ j, (listed.setIfInBounds i true)[j]? = some true ↔ (listed[j]? = some true ∨ j = i) := by
    intro j
    by_cases hj : j = i
    · subst hj
      simp [hi]
    · rw [Array.getElem?_setIfInBounds_ne (fun e => hj e.symm)]
      simp [hj]
  refine ⟨by simpa using I.size, ?_, ?_, hpl, hrel, ?_, ?_, ?_, ?_, hst⟩
  · intro j o ed hj ho hed hb
    rw [hD] at hj ⊢
    rcases hj with hj | rfl
    · exact .inl (I.down j o ed hj ho hed hb)
    · rw [g1] at ho
      injection ho with ho
      subst ho
      exact .inl (hready ed hed hb)
  · intro q j hq
    rw [hD]
    exact hph q j hq
  · intro j e' hje hal hnl
    rw [ne_eq, hD, not_or] at hnl
    exact hnew j e' hje hal hnl.2 (I.new j e' hje hal hnl.1)
  · have : (a.put e.o.dst v').tmps.size = a.tmps.size := by cases e.o.dst <;> simp [Act.put]
    rw [this]; exact I.ssize
  · intro d v u hv1 hu
    by_cases hd : e.o.dst = some d
    · left
      refine ⟨i, e, (hD i).2 (.inr rfl), he, hd, ?_⟩
      rw [hd] at hu
      have hds : d < a.tmps.size := by rw [I.ssize]; exact (Array.getElem?_eq_some_iff.1 hv1).1
      simp only [Act.put] at hu
      rw [Array.getElem?_setIfInBounds_self_of_lt hds] at hu
      injection hu with hu
      exact hu ▸ hv
    · have hu' : a.tmps[d]? = some u := by
        cases hdd : e.o.dst with
        | none => rw [hdd] at hu; exact hu
        | some d' =>
          rw [hdd] at hu
          simp only [Act.put] at hu
          rwa [Array.getElem?_setIfInBounds_ne (fun e2 => hd (by rw [hdd, e2]))] at hu
      rcases I.slot d v u hv1 hu' with ⟨j, e', k1, k2, k3, k4⟩ | ⟨k1, k2⟩
      · exact .inl ⟨j, e', (hD j).2 (.inl k1), k2, k3, k4.mono hle⟩
      · right
        refine ⟨?_, k2.mono hle⟩
        intro j e' hj hje
        rcases (hD j).1 hj with hj | rfl
        · exact k1 j e' hj hje
        · rw [he] at hje
          injection hje with hje
          rw [← hje]; exact hd
  · have : (a.put e.o.dst v').defers = a.defers := by cases e.o.dst <;> rfl
    rw [this]; exact I.defers

end Sx
end Go.Proofs.YtmfejegpnfbajaaGreatDoor
