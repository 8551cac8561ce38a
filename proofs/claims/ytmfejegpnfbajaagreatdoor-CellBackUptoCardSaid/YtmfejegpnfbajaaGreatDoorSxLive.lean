/-
  What the evaluator says of live() is what live() does.
-/
import Derived.Test.YtmfejegpnfbajaaGreatDoorSxCode
import Derived.Test.YtmfejegpnfbajaaGreatDoorSxTold
import Derived.Laws.Externs
import Derived.Below
import Derived.KernelRfl
namespace Go.Proofs.YtmfejegpnfbajaaGreatDoor
namespace Sx
open Go.RowKit

def ι0 : Map := (List.range 12).map fun g => some (g, 0)

theorem names_ok : Tryz.prog.funcs.toList.all (fun fn => !(fn.name == "runtime.NumGoroutine")) = true := by kernel_rfl
theorem mixed_ok : Tryz.prog.follows .mixedOrders = true := by kernel_rfl

theorem add64_run {ι : Map} {l l' : List Value} {v : Value} (he : add64 l = some v) (hl : VRL ι l l') (w : World) : ∃ v', (callFunc 234 l'.toArray).run Tryz.prog w = .ok (.value v') w ∧ VR ι v v' := by
  unfold add64 at he
  split at he
  · rename_i x y c
    split at he
    · rename_i hb
      obtain ⟨hx, hy, hc, hc1⟩ := hb
      obtain ⟨x', k1, rfl, r1, s1⟩ := hl.cases_cons
      obtain ⟨y', k2, rfl, r2, s2⟩ := s1.cases_cons
      obtain ⟨c', k3, rfl, r3, s3⟩ := s2.cases_cons
      have := s3.cases_nil
      subst this
      cases r1; cases r2; cases r3
      simp only [Option.some.injEq] at he
      refine ⟨v, ?_, ?_⟩
      · rw [show ([Value.int .u64 x, .int .u64 y, .int .u64 c] : List Value).toArray = #[.int .u64 x, .int .u64 y, .int .u64 c] from rfl]
        rw [run_callFunc_extern Tryz.func234 (by kernel_rfl) (by kernel_rfl) (by kernel_rfl) (e := add64Entry) (by kernel_rfl), run_add64 x y c hx hy hc hc1]
        rw [he]
        rfl
      · rw [← he]
        exact VRL.tuple (.cons (.int _ _) (.cons (.int _ _) (.nil ι)))
    · simp at he
  · simp at he

theorem ctx_ok : Ok ctx where
  mixed := mixed_ok
  fn := fun f fn hf => by
    refine ⟨hf, ?_⟩
    have h1 := names_ok
    rw [List.all_eq_true] at h1
    have h2 := h1 fn (by
      have : Tryz.prog.funcs.toList[f]? = some fn := by rw [Array.getElem?_toList]; exact hf
      exact List.mem_of_getElem? this)
    simpa using h2
  ext := fun f e l v he hv ι w l' hl => by
    simp only [ctx] at he
    split at he
    · rename_i hf
      subst hf
      simp only [Option.some.injEq] at he
      subst he
      exact add64_run hv hl w
    · simp at he
  con := fun f k args h v h' hk => by simp [ctx] at hk

/-- A world as the package variables were laid. -/
structure Laid (w : World) : Prop where
  lo : 12 ≤ w.heap.size
  pow : ∀ (j : Nat) (v : Value), powL[j]? = some v → w.cell? ⟨4, j, none⟩ = some v
  units : ∀ (j : Nat) (v : Value), unitsL[j]? = some v → w.cell? ⟨5, j, none⟩ = some v

theorem at0 {i b sz : Nat} (h : At ι0 i b sz) : i < 12 ∧ b = i := by
  unfold At ι0 at h
  have hi : i < 12 := by have := (List.getElem?_eq_some_iff.1 h).1; simpa using this
  rw [List.getElem?_map, List.getElem?_range hi] at h
  simp at h
  exact ⟨hi, h.1.symm⟩

theorem flat_list {ι : Map} {l : List Value} (h : l.all isFlat = true) {j : Nat} {v : Value} (hv : l[j]? = some v) : VR ι v v := isFlat_refl ι (List.all_eq_true.1 h v (List.mem_of_getElem? hv))

theorem Laid.rel {w : World} (L : Laid w) : Rel ι0 h0 w where
  len := rfl
  blk := fun i B b sz hB ha => by
    obtain ⟨hi, rfl⟩ := at0 ha
    by_cases h4 : b = 4
    · subst h4
      obtain rfl := Option.some.inj ((show h0[4]? = some (.tab powL) from rfl).symm.trans hB)
      exact ⟨by have := L.lo; omega, fun j v hj => ⟨v, L.pow j v hj, flat_list (by decide +kernel) hj⟩⟩
    by_cases h5 : b = 5
    · subst h5
      obtain rfl := Option.some.inj ((show h0[5]? = some (.tab unitsL) from rfl).symm.trans hB)
      exact ⟨by have := L.lo; omega, fun j v hj => ⟨v, L.units j v hj, flat_list (by decide +kernel) hj⟩⟩
    have hd : ∀ k, k < 12 → k ≠ 4 → k ≠ 5 → h0[k]? = some .dead := fun k h1 h2 h3 => by
      match k, h1 with
      | 0, _ | 1, _ | 2, _ | 3, _ | 6, _ | 7, _ | 8, _ | 9, _ | 10, _ | 11, _ => rfl
      | 4, _ => exact absurd rfl h2
      | 5, _ => exact absurd rfl h3
    obtain rfl := Option.some.inj ((hd b hi h4 h5).symm.trans hB)
    trivial
  inj := fun i j Bi Bj b s t _ _ _ _ ai aj => by
    obtain ⟨_, rfl⟩ := at0 ai
    obtain ⟨_, rfl⟩ := at0 aj
    rfl

theorem glob0 : Glob ctx ι0 := fun g hg => ⟨0, by
  have hg' : g < 12 := hg
  unfold At ι0
  rw [List.getElem?_map, List.getElem?_range hg']
  rfl⟩

/-- A call that the evaluator tells, from the laid variables on. -/
theorem laid_call {w : World} (L : Laid w) {f : FuncId} {args : List Value} {v : Value} {h' : List Blk} (hf : args.all isFlat = true) (fuel n : Nat) (he : callA ctx fuel n f args h0 = some (v, h')) :
    Calls Tryz.prog f args.toArray w fun e w' => ∃ ι' v', e = .returned v' ∧ Rel ι' h' w' ∧ VR ι' v v' ∧ Below w.heap.size w w' := by
  have hargs : VRL ι0 args args := ⟨rfl, fun i a b ha hb => by
    rw [ha] at hb
    injection hb with hb
    subst hb
    exact flat_list hf ha⟩
  refine Calls.mono (callA_ok ctx_ok fuel n f args h0 v h' he ι0 w args L.rel glob0 (Nat.le_refl 12) hargs) ?_
  rintro e w' ⟨ι', v', h1, h2, h3, h4⟩
  refine ⟨ι', v', h1, h2, h4, h3.os, h3.tape, h3.output, h3.size, fun k hk => h3.old k hk ?_⟩
  intro i sz hi ha
  have h12 : 12 ≤ i := hi
  have := (at0 ha).1
  omega

/-- live() is true, and nothing that was there turns. -/
theorem live_any {w : World} (L : Laid w) : Calls Tryz.prog 9 #[] w fun e w' => e = .returned (.bool true) ∧ Below w.heap.size w w' := by
  obtain ⟨h', hc⟩ := isTrue_some live_told
  refine Calls.mono (laid_call L (by rfl) 100000 60 hc) ?_
  rintro e w' ⟨ι', v', h2, h3, h4, h5⟩
  cases h4
  exact ⟨h2, h5⟩

end Sx
end Go.Proofs.YtmfejegpnfbajaaGreatDoor
