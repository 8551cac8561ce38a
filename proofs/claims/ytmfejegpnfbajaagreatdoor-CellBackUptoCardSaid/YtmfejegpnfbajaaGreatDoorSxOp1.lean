/-
  The abstract machine: addresses, slices, structs.
-/
import Derived.Test.YtmfejegpnfbajaaGreatDoorSxMem
namespace Go.Proofs.YtmfejegpnfbajaaGreatDoor
namespace Sx

variable {ι : Map} {h : List Blk} {w : World}

theorem VR.ptr_inv {a : Addr} {x' : Value} (r : VR ι (.pointer (some a)) x') : ∃ b sz, a.spot = none ∧ At ι a.block b sz ∧ x' = .pointer (some ⟨b, a.off, none⟩) := by
  cases r with
  | ptr off h => exact ⟨_, _, rfl, h, rfl⟩
theorem VR.int_inv {k : IntKind} {n : Int} {x' : Value} (r : VR ι (.int k n) x') : x' = .int k n := by cases r; rfl
theorem VR.ptr_add {a : Addr} {b sz : Nat} (n : Nat) (hs : a.spot = none) (ha : At ι a.block b sz) : VR ι (.pointer (some (a.add n))) (.pointer (some ((⟨b, a.off, none⟩ : Addr).add n))) := by
  obtain ⟨i, off, sp⟩ := a
  simp only at hs; subst hs
  rw [add_at, add_at]
  exact .ptr _ ha

theorem fieldA_run (P : Program) {s : TypeId} {x v x' : Value} {f : Nat} (hl : fieldA P s x f = some v) (hx : VR ι x x') (w : World) :
    ∃ v', (Instr.fieldAt s x' f).run P w = .ok v' w ∧ VR ι v v' := by
  unfold fieldA at hl
  split at hl
  · rename_i fields a hu
    cases hf : fields[f]? with
    | none => simp [hf] at hl
    | some fd =>
      simp only [hf, Option.bind_eq_bind, Option.bind_some] at hl
      cases hn : sizeT P fd.type with
      | none => simp [hn] at hl
      | some n =>
        simp only [hn, Option.bind_some] at hl
        split at hl
        · simp at hl
        · rename_i hz
          simp at hl
          obtain ⟨b, sz, hs, ha, rfl⟩ := hx.ptr_inv
          refine ⟨.pointer (some ((⟨b, a.off, none⟩ : Addr).add fd.offset)), ?_, ?_⟩
          · simp [Instr.fieldAt, und_run hu, hf, Instr.sureAddr, fieldPlace, sizeT_run hn, hz]
          · rw [← hl]; exact .ptr_add _ hs ha
  · simp at hl

theorem VR.slice_inv {a : Addr} {l c : Nat} {x' : Value} (r : VR ι (.slice (some a) l c) x') : ∃ b sz c', a.spot = none ∧ At ι a.block b sz ∧ x' = .slice (some ⟨b, a.off, none⟩) l c' ∧
    ((c < unk ∧ c' = c) ∨ ∃ es, c = unk + es ∧ l ≤ c' ∧ a.off + c' * es = sz) := by
  cases r with
  | slice off l c h hc => exact ⟨_, _, _, rfl, h, rfl, .inl ⟨hc, rfl⟩⟩
  | wide off l es c' h hl hs => exact ⟨_, _, _, rfl, h, rfl, .inr ⟨es, rfl, hl, hs⟩⟩
theorem VR.snil_inv {l c : Nat} {x' : Value} (r : VR ι (.slice none l c) x') : x' = .slice none l c := by cases r; rfl

theorem indexA_run (P : Program) {t : TypeId} {x ix v x' : Value} (hl : indexA P t x ix = some v) (hx : VR ι x x') {ix' : Value} (hi : VR ι ix ix') (w : World) :
    ∃ v', (Instr.indexAt t x' ix').run P w = .ok v' w ∧ VR ι v v' := by
  unfold indexA at hl
  split at hl
  · rename_i k i len elem a hu
    cases hn : sizeT P elem with
    | none => simp [hn] at hl
    | some n =>
      simp only [hn, Option.bind_eq_bind, Option.bind_some] at hl
      split at hl
      · rename_i hb
        simp at hl
        obtain ⟨b, sz, hs, ha, rfl⟩ := hx.ptr_inv
        rw [hi.int_inv]
        refine ⟨.pointer (some ((⟨b, a.off, none⟩ : Addr).add (i.toNat * n))), ?_, ?_⟩
        · simp [Instr.indexAt, asIntOf, und_run hu, Instr.sureAddr, sizeT_run hn, hb]
        · rw [← hl]; exact .ptr_add _ hs ha
      · simp at hl
  · rename_i k i elem a len c hu
    cases hn : sizeT P elem with
    | none => simp [hn] at hl
    | some n =>
      simp only [hn, Option.bind_eq_bind, Option.bind_some] at hl
      split at hl
      · rename_i hb
        simp at hl
        obtain ⟨b, sz, c', hs, ha, rfl, _⟩ := hx.slice_inv
        rw [hi.int_inv]
        refine ⟨.pointer (some ((⟨b, a.off, none⟩ : Addr).add (i.toNat * n))), ?_, ?_⟩
        · simp [Instr.indexAt, asIntOf, und_run hu, sizeT_run hn, hb]
        · rw [← hl]; exact .ptr_add _ hs ha
      · simp at hl
  · simp at hl

theorem partA_run (P : Program) {t : TypeId} {cs cs' : Array Value} {off : Nat} {v : Value} (hl : partA P t cs off = some v) (hc : VRL ι cs.toList cs'.toList) (w : World) :
    ∃ v', (part t cs' off).run P w = .ok v' w ∧ VR ι v v' := by
  unfold partA at hl
  cases hag : isAggT P t with
  | none => simp [hag] at hl
  | some ag =>
    simp only [hag, Option.bind_eq_bind, Option.bind_some] at hl
    cases ag with
    | true =>
      simp only [if_true] at hl
      cases hn : sizeT P t with
      | none => simp [hn] at hl
      | some n =>
        simp only [hn, Option.bind_some, Option.some.injEq] at hl
        refine ⟨.agg (cs'.extract off (off + n)), by simp [part, isAggT_run hag, sizeT_run hn], ?_⟩
        rw [← hl]
        refine VRL.agg ?_
        simp only [Array.toList_extract, List.extract_eq_take_drop]
        exact (hc.drop off).take _
    | false =>
      simp only [Bool.false_eq_true, if_false] at hl
      have h1 : cs.toList[off]? = some v := by simpa using hl
      obtain ⟨v', h2, h3⟩ := hc.get h1
      refine ⟨v', ?_, h3⟩
      have h4 : cs'[off]? = some v' := by simpa using h2
      simp [part, isAggT_run hag, h4]

theorem VR.agg_inv {as : Array Value} {x' : Value} (r : VR ι (.agg as) x') : ∃ bs, x' = .agg bs ∧ VRL ι as.toList bs.toList := by
  cases r with
  | agg h1 h2 => exact ⟨_, rfl, h1, h2⟩
theorem VR.tuple_inv {as : Array Value} {x' : Value} (r : VR ι (.tuple as) x') : ∃ bs, x' = .tuple bs ∧ VRL ι as.toList bs.toList := by
  cases r with
  | tuple h1 h2 => exact ⟨_, rfl, h1, h2⟩

theorem fieldOfA_run (P : Program) {t : TypeId} {x v x' : Value} {f : Nat} (hl : fieldOfA P t x f = some v) (hx : VR ι x x') (w : World) :
    ∃ v', (Instr.field t x' f).run P w = .ok v' w ∧ VR ι v v' := by
  unfold fieldOfA at hl
  split at hl
  · rename_i fields cs hu
    cases hf : fields[f]? with
    | none => simp [hf] at hl
    | some fd =>
      simp only [hf, Option.bind_eq_bind, Option.bind_some] at hl
      obtain ⟨bs, rfl, hb⟩ := hx.agg_inv
      obtain ⟨v', h1, h2⟩ := partA_run P hl hb w
      exact ⟨v', by simp [Instr.field, und_run hu, hf, asAgg, h1], h2⟩
  · simp at hl

/-! ### Slicing -/

theorem bnd_run {P : Program} {x x' : Option Value} {n : Option Nat} (hb : bnd x = some n) (hx : ∀ v v', x = some v → x' = some v' → VR ι v v') (hs : x.isSome = x'.isSome) :
    (x = none ∧ x' = none ∧ n = none) ∨ ∃ k i, x' = some (.int k i) ∧ 0 ≤ i ∧ n = some i.toNat := by
  cases x with
  | none =>
    cases x' with
    | none => left; simp [bnd] at hb; exact ⟨rfl, rfl, hb.symm⟩
    | some v' => simp at hs
  | some v =>
    cases x' with
    | none => simp at hs
    | some v' =>
      have r := hx v v' rfl rfl
      unfold bnd at hb
      split at hb
      · rename_i e; simp at e
      · rename_i k i e
        simp at e
        subst e
        split at hb
        · rename_i h0
          simp at hb
          right
          exact ⟨k, i, by rw [r.int_inv], h0, hb.symm⟩
        · simp at hb
      · simp at hb

theorem sliceBound_run (P : Program) (k : IntKind) (i : Int) (y : Nat) (c : BoundsCode) (h0 : 0 ≤ i) (h1 : i ≤ y) (w : World) : (Instr.sliceBound (.int k i) y c).run P w = .ok i.toNat w := by
  simp [Instr.sliceBound, asIntOf, h0, h1]

theorem sliceBounds_run (P : Program) (isS : Bool) (len cap : Nat) (lo hi mx : Option Value) (l h m : Nat) (nl nh nm : Option Nat)
    (hl : (lo = none ∧ nl = none) ∨ ∃ k i, lo = some (.int k i) ∧ 0 ≤ i ∧ nl = some i.toNat)
    (hh : (hi = none ∧ nh = none) ∨ ∃ k i, hi = some (.int k i) ∧ 0 ≤ i ∧ nh = some i.toNat)
    (hm : (mx = none ∧ nm = none) ∨ ∃ k i, mx = some (.int k i) ∧ 0 ≤ i ∧ nm = some i.toNat)
    (e1 : l = nl.getD 0) (e2 : h = nh.getD len) (e3 : m = nm.getD cap) (hmn : nm.isSome = true → nh.isSome = true) (b1 : l ≤ h) (b2 : h ≤ m) (b3 : m ≤ cap) (w : World) :
    (Instr.sliceBounds isS len cap lo hi mx).run P w = .ok (l, h, m) w := by
  subst e1 e2 e3
  rcases hm with ⟨rfl, rfl⟩ | ⟨km, im, rfl, h0m, rfl⟩
  · simp at b2 b3
    rcases hh with ⟨rfl, rfl⟩ | ⟨kh, ih, rfl, h0h, rfl⟩
    · simp at b1 b2
      rcases hl with ⟨rfl, rfl⟩ | ⟨kl, il, rfl, h0l, rfl⟩
      · simp [Instr.sliceBounds]
      · simp at b1
        simp [Instr.sliceBounds, sliceBound_run P kl il len _ h0l (by omega)]
    · simp at b1 b2
      rcases hl with ⟨rfl, rfl⟩ | ⟨kl, il, rfl, h0l, rfl⟩
      · simp [Instr.sliceBounds, sliceBound_run P kh ih cap _ h0h (by omega)]
      · simp at b1
        simp [Instr.sliceBounds, sliceBound_run P kh ih cap _ h0h (by omega), sliceBound_run P kl il ih.toNat _ h0l (by omega)]
  · simp at b2 b3
    rcases hh with ⟨rfl, rfl⟩ | ⟨kh, ih, rfl, h0h, rfl⟩
    · simp at hmn
    · simp at b1 b2
      rcases hl with ⟨rfl, rfl⟩ | ⟨kl, il, rfl, h0l, rfl⟩
      · simp [Instr.sliceBounds, sliceBound_run P km im cap _ h0m (by omega), sliceBound_run P kh ih im.toNat _ h0h (by omega)]
      · simp at b1
        simp [Instr.sliceBounds, sliceBound_run P km im cap _ h0m (by omega), sliceBound_run P kh ih im.toNat _ h0h (by omega), sliceBound_run P kl il ih.toNat _ h0l (by omega)]

theorem bounds_inv {len cap : Nat} {lo hi mx : Option Nat} {l h m : Nat} (hb : bounds len cap lo hi mx = some (l, h, m)) :
    l = lo.getD 0 ∧ h = hi.getD len ∧ m = mx.getD cap ∧ (mx.isSome = true → hi.isSome = true) ∧ l ≤ h ∧ h ≤ m ∧ m ≤ cap := by
  unfold bounds at hb
  split at hb
  · simp at hb
  · rename_i hc
    dsimp only at hb
    split at hb
    · rename_i hd
      simp at hb
      obtain ⟨rfl, rfl, rfl⟩ := hb
      refine ⟨rfl, rfl, rfl, ?_, hd⟩
      intro hm
      cases hi with
      | none => simp [hm] at hc
      | some _ => rfl
    · simp at hb

theorem slice_if {a : Addr} {b z m l sz k c : Nat} (hs : a.spot = none) (ha : At ι a.block b z) (hc : c < unk) :
    VR ι (.slice (some (if m = l then a else a.add (l * sz))) k c) (.slice (some (if m = l then (⟨b, a.off, none⟩ : Addr) else (⟨b, a.off, none⟩ : Addr).add (l * sz))) k c) := by
  obtain ⟨i, off, sp⟩ := a
  simp only at hs; subst hs
  split
  · exact .slice _ _ _ ha hc
  · rw [add_at, add_at]; exact .slice _ _ _ ha hc

theorem sliceA_run (P : Program) {t : TypeId} {x v x' : Value} {lo hi mx lo' hi' mx' : Option Value} (hl : sliceA P t x lo hi mx = some v) (hx : VR ι x x')
    (rl : ∀ v v', lo = some v → lo' = some v' → VR ι v v') (sl : lo.isSome = lo'.isSome) (rh : ∀ v v', hi = some v → hi' = some v' → VR ι v v') (sh : hi.isSome = hi'.isSome)
    (rm : ∀ v v', mx = some v → mx' = some v' → VR ι v v') (sm : mx.isSome = mx'.isSome) (w : World) :
    ∃ v', (Instr.sliceAt t x' lo' hi' mx').run P w = .ok v' w ∧ VR ι v v' := by
  unfold sliceA at hl
  cases h1 : bnd lo with
  | none => simp [h1] at hl
  | some nl =>
  cases h2 : bnd hi with
  | none => simp [h1, h2] at hl
  | some nh =>
  cases h3 : bnd mx with
  | none => simp [h1, h2, h3] at hl
  | some nm =>
  simp only [h1, h2, h3, Option.bind_eq_bind, Option.bind_some] at hl
  have q1 : (lo' = none ∧ nl = none) ∨ ∃ k i, lo' = some (.int k i) ∧ 0 ≤ i ∧ nl = some i.toNat := by
    rcases bnd_run (P := P) h1 rl sl with ⟨_, a, b⟩ | a
    · exact .inl ⟨a, b⟩
    · exact .inr a
  have q2 : (hi' = none ∧ nh = none) ∨ ∃ k i, hi' = some (.int k i) ∧ 0 ≤ i ∧ nh = some i.toNat := by
    rcases bnd_run (P := P) h2 rh sh with ⟨_, a, b⟩ | a
    · exact .inl ⟨a, b⟩
    · exact .inr a
  have q3 : (mx' = none ∧ nm = none) ∨ ∃ k i, mx' = some (.int k i) ∧ 0 ≤ i ∧ nm = some i.toNat := by
    rcases bnd_run (P := P) h3 rm sm with ⟨_, a, b⟩ | a
    · exact .inl ⟨a, b⟩
    · exact .inr a
  split at hl
  · rename_i n elem a hu
    cases hn : sizeT P elem with
    | none => simp [hn] at hl
    | some sz =>
      simp only [hn, Option.bind_some] at hl
      cases hb : bounds n n nl nh nm with
      | none => simp [hb] at hl
      | some lhm =>
        obtain ⟨l, hh, m⟩ := lhm
        simp only [hb, Option.bind_some] at hl
        split at hl
        · rename_i hnu
          simp only [Option.some.injEq] at hl
          obtain ⟨b, z, hs, ha, rfl⟩ := hx.ptr_inv
          obtain ⟨g1, g2, g3, g4, g5, g6, g7⟩ := bounds_inv hb
          have hr := sliceBounds_run P false n n lo' hi' mx' l hh m nl nh nm q1 q2 q3 g1 g2 g3 g4 g5 g6 g7 w
          refine ⟨.slice (some (if m = l then (⟨b, a.off, none⟩ : Addr) else (⟨b, a.off, none⟩ : Addr).add (l * sz))) (hh - l) (m - l), ?_, ?_⟩
          · simp [Instr.sliceAt, und_run hu, Instr.sureAddr, hr, sizeT_run hn]
          · rw [← hl]; exact slice_if hs ha (by omega)
        · simp at hl
  · rename_i elem len cap hu
    cases hn : sizeT P elem with
    | none => simp [hn] at hl
    | some sz =>
      simp only [hn, Option.bind_some] at hl
      cases hb : bounds len cap nl nh nm with
      | none => simp [hb] at hl
      | some lhm =>
        obtain ⟨l, hh, m⟩ := lhm
        simp only [hb, Option.bind_some, Option.some.injEq] at hl
        rw [hx.snil_inv]
        obtain ⟨g1, g2, g3, g4, g5, g6, g7⟩ := bounds_inv hb
        have hr := sliceBounds_run P true len cap lo' hi' mx' l hh m nl nh nm q1 q2 q3 g1 g2 g3 g4 g5 g6 g7 w
        refine ⟨.slice none (hh - l) (m - l), ?_, hl ▸ .snil _ _⟩
        simp only [Instr.sliceAt, Sem.run_bind, und_run hu, Result.andThen_ok, Instr.slice, hr, sizeT_run hn, Sem.run_pure, Option.map_none]
        split <;> rfl
  · rename_i elem a len cap hu
    cases hn : sizeT P elem with
    | none => simp [hn] at hl
    | some sz =>
      simp only [hn, Option.bind_some] at hl
      obtain ⟨b, z, c', hs, ha, rfl, hc⟩ := hx.slice_inv
      split at hl
      · rename_i hcu
        rcases hc with ⟨_, rfl⟩ | ⟨es, he, _, _⟩
        · cases hb : bounds len c' nl nh nm with
          | none => simp [hb] at hl
          | some lhm =>
            obtain ⟨l, hh, m⟩ := lhm
            simp only [hb, Option.bind_some, Option.some.injEq] at hl
            obtain ⟨g1, g2, g3, g4, g5, g6, g7⟩ := bounds_inv hb
            have hr := sliceBounds_run P true len c' lo' hi' mx' l hh m nl nh nm q1 q2 q3 g1 g2 g3 g4 g5 g6 g7 w
            refine ⟨.slice (some (if m = l then (⟨b, a.off, none⟩ : Addr) else (⟨b, a.off, none⟩ : Addr).add (l * sz))) (hh - l) (m - l), ?_, ?_⟩
            · simp only [Instr.sliceAt, Sem.run_bind, und_run hu, Result.andThen_ok, Instr.slice, hr, sizeT_run hn, Sem.run_pure, Option.map_some]
              split <;> rfl
            · rw [← hl]; exact slice_if hs ha (by omega)
        · omega
      · rename_i hcu
        split at hl
        · simp at hl
        rename_i hcc
        simp only [Bool.or_eq_true, decide_eq_true_eq, not_or, Decidable.not_not, Nat.not_le, ne_eq] at hcc
        obtain ⟨hce, hlu⟩ := hcc
        rcases hc with ⟨hlt, _⟩ | ⟨es, he, hle, hsz⟩
        · omega
        have hes : es = sz := by omega
        subst hes
        cases hb : bounds len len nl nh nm with
        | none => simp [hb] at hl
        | some lhm =>
          obtain ⟨l, hh, m⟩ := lhm
          simp only [hb, Option.bind_some] at hl
          obtain ⟨g1, g2, g3, g4, g5, g6, g7⟩ := bounds_inv hb
          split at hl
          · rename_i hms
            simp only [Option.some.injEq] at hl
            have hr := sliceBounds_run P true len c' lo' hi' mx' l hh m nl nh nm q1 q2 q3 g1 g2 (by cases nm <;> simp_all) g4 g5 g6 (by omega) w
            refine ⟨.slice (some (if m = l then (⟨b, a.off, none⟩ : Addr) else (⟨b, a.off, none⟩ : Addr).add (l * es))) (hh - l) (m - l), ?_, ?_⟩
            · simp only [Instr.sliceAt, Sem.run_bind, und_run hu, Result.andThen_ok, Instr.slice, hr, sizeT_run hn, Sem.run_pure, Option.map_some]
              split <;> rfl
            · rw [← hl]; exact slice_if hs ha (by omega)
          · rename_i hms
            split at hl
            · rename_i h0
              simp only [Bool.or_eq_true, decide_eq_true_eq] at h0
              simp only [Option.some.injEq] at hl
              have hmm : nm = none := by cases nm <;> simp_all
              subst hmm
              simp at g3
              have hr := sliceBounds_run P true len c' lo' hi' mx' l hh c' nl nh none q1 q2 q3 g1 g2 (by simp) (by simp) g5 (by omega) (Nat.le_refl _) w
              refine ⟨.slice (some ((⟨b, a.off, none⟩ : Addr).add (l * es))) (hh - l) (c' - l), ?_, ?_⟩
              · simp only [Instr.sliceAt, Sem.run_bind, und_run hu, Result.andThen_ok, Instr.slice, hr, sizeT_run hn, Sem.run_pure, Option.map_some]
                split
                · rename_i e
                  have hl0 : l = 0 := by omega
                  subst hl0
                  simp [add_at]
                · rfl
              · rw [← hl, he]
                obtain ⟨i, off, sp⟩ := a
                simp only at hs ha hsz; subst hs
                rw [add_at, add_at]
                refine .wide _ _ _ _ ha (by omega) ?_
                have : l ≤ c' := by omega
                rw [Nat.sub_mul]
                have := Nat.mul_le_mul_right es this
                omega
            · simp at hl
  · simp at hl

end Sx
end Go.Proofs.YtmfejegpnfbajaaGreatDoor
