/-
  The abstract machine: appending, copying, lengths, conversions.
-/
import Derived.Test.YtmfejegpnfbajaaGreatDoorSxOp2
namespace Go.Proofs.YtmfejegpnfbajaaGreatDoor
namespace Sx

variable {ι : Map} {h : List Blk} {w : World} {ro : Nat}

theorem extract_cells (s : ByteArray) (n : Nat) : ((s.extract 0 n).data.map fun b => (Value.int .u8 b.toNat)) = ((s.extract 0 n).data.toList.map fun b => Value.int .u8 b.toNat).toArray := by
  apply Array.ext'; simp

theorem firstA_run (R : Rel ι h w) (P : Program) {size n : Nat} {x x' : Value} {vs : List Value} (hl : firstA h size n x = some vs) (hx : VR ι x x') :
    ∃ vs', (Builtin.firstCells size n x').run P w = .ok vs'.toArray w ∧ VRL ι vs vs' := by
  unfold firstA at hl
  split at hl
  · rename_i a l c
    obtain ⟨b, sz, c', hs, ha, rfl, _⟩ := hx.slice_inv
    obtain ⟨i, off, sp⟩ := a
    simp only at hs ha; subst hs
    obtain ⟨vs', h1, h2, _⟩ := rd_run R P hl (.ptr off ha)
    exact ⟨vs', h1, h2⟩
  · rename_i l c
    rw [hx.snil_inv]
    split at hl
    · simp at hl; subst hl; exact ⟨[], rfl, .nil ι⟩
    · simp at hl
  · rename_i s
    cases hx
    simp only [Option.some.injEq] at hl
    subst hl
    refine ⟨(s.extract 0 n).data.toList.map fun b => .int .u8 b.toNat, ?_, VRL.of_map _ _ _ fun b _ => .int _ _⟩
    simp only [Builtin.firstCells, Sem.run_pure, extract_cells]
  · simp at hl

theorem lenA_run (P : Program) {x x' : Value} {n : Nat} (hl : lenA x = some n) (hx : VR ι x x') (w : World) : (Builtin.lenOf x').run P w = .ok n w := by
  unfold lenA at hl
  split at hl
  · rename_i a l c
    simp at hl; subst hl
    cases a with
    | none => rw [hx.snil_inv]; rfl
    | some a => obtain ⟨b, sz, c', hs, ha, rfl, _⟩ := hx.slice_inv; rfl
  · simp at hl; subst hl; cases hx; rfl
  · simp at hl

theorem growBy_le (n : Nat) : ∀ (r c : Nat), Builtin.growBy n r c ≤ max c (n + (n + 768) / 4) := by
  intro r
  induction r with
  | zero => intro c; simp [Builtin.growBy]; omega
  | succ r ih =>
    intro c
    simp only [Builtin.growBy]
    split
    · omega
    · have := ih (c + (c + 768) / 4)
      omega

theorem nextslicecap_le (n c : Nat) (h : c < n) : Builtin.nextslicecap n c ≤ 2 * n + 192 := by
  unfold Builtin.nextslicecap
  split
  · omega
  · split
    · omega
    · have := growBy_le n 4 c
      omega

/-- A block changes its number. -/
theorem Rel.move (R : Rel ι h w) {w' : World} {k b sz : Nat} {B C : Blk} (hk : h[k]? = some B) (hd : isDead B = false) (hι : At ι k b sz)
    (hC : BR (ι ++ [some (b, sz)]) w' b sz C) (hw : ∀ c, c ≠ b → w'.heap[c]? = w.heap[c]?) : Rel (ι ++ [some (b, sz)]) (h.set k .dead ++ [C]) w' := by
  have hlen : k < h.length := (List.getElem?_eq_some_iff.1 hk).1
  have split_at : ∀ i c s, At (ι ++ [some (b, sz)]) i c s → (i < ι.length ∧ At ι i c s) ∨ (i = ι.length ∧ c = b ∧ s = sz) := by
    intro i c s hi
    unfold At at hi
    rw [List.getElem?_append] at hi
    split at hi
    · exact .inl ⟨by assumption, hi⟩
    · right
      have h0 : i - ι.length = 0 := by
        have := (List.getElem?_eq_some_iff.1 hi).1; simp at this; omega
      rw [h0] at hi
      simp at hi
      exact ⟨by omega, by omega, by omega⟩
  have look : ∀ (i : Nat) (A : Blk), (h.set k .dead ++ [C])[i]? = some A → isDead A = false → (i < ι.length ∧ i ≠ k ∧ h[i]? = some A) ∨ (i = ι.length ∧ A = C) := by
    intro i A hi hdA
    rw [List.getElem?_append] at hi
    split at hi
    · rename_i hlt
      simp at hlt
      rw [List.getElem?_set] at hi
      split at hi
      · simp at hi; obtain ⟨_, rfl⟩ := hi; simp [isDead] at hdA
      · rename_i hne
        exact .inl ⟨by rw [R.len]; exact hlt, fun e => hne e.symm, hi⟩
    · rename_i hlt
      have h0 := (List.getElem?_eq_some_iff.1 hi).1
      simp at h0 hlt
      have : i = h.length := by omega
      subst this
      simp at hi
      exact .inr ⟨R.len.symm, hi.symm⟩
  refine ⟨by simp [R.len], ?_, ?_⟩
  · intro i A c s hi ha
    cases hdA : isDead A with
    | true => cases A <;> simp [isDead] at hdA; trivial
    | false =>
      rcases look i A hi hdA with ⟨hlt, hne, hi'⟩ | ⟨rfl, rfl⟩
      · rcases split_at i c s ha with ⟨_, ha'⟩ | ⟨rfl, _, _⟩
        · refine (R.blk i A c s hi' ha').mono (Le.snoc ι _) (hw c ?_)
          intro e
          subst e
          exact hne (R.inj i k A B c s sz hi' hk hdA hd ha' hι)
        · omega
      · rcases split_at _ c s ha with ⟨hlt, _⟩ | ⟨_, rfl, rfl⟩
        · omega
        · exact hC
  · intro i j Bi Bj c s t hi hj di dj ai aj
    rcases look i Bi hi di with ⟨hlt, hne, hi'⟩ | ⟨rfl, rfl⟩
    · rcases look j Bj hj dj with ⟨hlt', hne', hj'⟩ | ⟨rfl, rfl⟩
      · rcases split_at i c s ai with ⟨_, ai'⟩ | ⟨rfl, _, _⟩
        · rcases split_at j c t aj with ⟨_, aj'⟩ | ⟨rfl, _, _⟩
          · exact R.inj i j Bi Bj c s t hi' hj' di dj ai' aj'
          · omega
        · omega
      · rcases split_at i c s ai with ⟨_, ai'⟩ | ⟨rfl, _, _⟩
        · rcases split_at _ c t aj with ⟨hlt', _⟩ | ⟨_, rfl, _⟩
          · omega
          · exact absurd (R.inj i k Bi B _ s sz hi' hk di hd ai' hι) hne
        · omega
    · rcases look j Bj hj dj with ⟨hlt', hne', hj'⟩ | ⟨rfl, rfl⟩
      · rcases split_at j c t aj with ⟨_, aj'⟩ | ⟨rfl, _, _⟩
        · rcases split_at _ c s ai with ⟨hlt, _⟩ | ⟨_, rfl, _⟩
          · omega
          · exact absurd (R.inj j k Bj B _ t sz hj' hk dj hd aj' hι) hne'
        · omega
      · rfl

theorem Step.move {ro : Nat} {w' : World} {k b sz : Nat} (hk : ro ≤ k) (hro : ro ≤ ι.length) (hι : At ι k b sz) (hos : w'.os = w.os) (htape : w'.tape = w.tape) (hout : w'.output = w.output) (hsize : w'.heap.size = w.heap.size)
    (hw : ∀ c, c ≠ b → w'.heap[c]? = w.heap[c]?) : Step ro ι w (ι ++ [some (b, sz)]) w' :=
  ⟨Le.snoc ι _, by simp, fun i hi => List.getElem?_append_left hi, fun i c s h => by
    unfold At at h
    rw [List.getElem?_append] at h
    split at h
    · exact .inl h
    · right
      have h0 : i - ι.length = 0 := by
        have := (List.getElem?_eq_some_iff.1 h).1; simp at this; omega
      rw [h0] at h
      simp at h
      obtain ⟨rfl, rfl⟩ := h
      exact ⟨by omega, .inr ⟨k, sz, hk, hι⟩⟩, hos, htape, hout, by omega, fun c _ hn => hw c fun e => hn k sz hk (e ▸ hι)⟩

/-- What an append needs to know. -/
structure App (P : Program) (ats : Array TypeId) (elem : TypeId) (info : TypeInfo) (z : List Value) : Prop where
  ex : ∃ st xt d, ats[0]? = some st ∧ ats[1]? = some xt ∧ P.underlying st = some (.slice elem) ∧ P.underlying xt = some d ∧ (∀ k, d ≠ .int k)
  inf : P.info? elem = some info
  zer : zeroT P elem = some z
  len : z.length = info.size
  pos : 0 < info.size

theorem append_room (R : Rel ι h w) {P : Program} {ats : Array TypeId} {elem : TypeId} {info : TypeInfo} {z : List Value} (A : App P ats elem info z) (ty : TypeId) {base : Option Addr} {l c n : Nat} {x' : Value} {new' : List Value} {args' : Array Value} (q0 : args'[0]? = some (.slice base l c)) (q1 : args'[1]? = some x')
    (hlen : (Builtin.lenOf x').run P w = .ok n w) (hnew : (Builtin.firstCells info.size n x').run P w = .ok new'.toArray w) (hle : l + n ≤ c) :
    (Builtin.append_ ats ty args').run P w = (match base with
      | some a => (storeCells (a.add (l * info.size)) new').run P w
      | none => .ok () w).andThen fun _ w' => .ok (.slice base (l + n) c) w' := by
  obtain ⟨st, xt, d, e1, e2, e3, e4, e5⟩ := A.ex
  have hd : (match d with | .int _ => true | _ => false) = false := by
    cases d <;> first | rfl | exact absurd rfl (e5 _)
  have hs : (sizeOf elem).run P w = .ok info.size w := by simp [sizeOf, info_run A.inf]
  unfold Builtin.append_
  simp only [e1, e2, q0, q1, Sem.run_bind, und_run e3, Result.andThen_ok, hs, und_run e4, Sem.run_pure, hd, Bool.false_eq_true, if_false, hlen, hle, if_true, Bool.not_false, hnew]
  cases base with
  | none => rfl
  | some a => simp

theorem append_grow (R : Rel ι h w) {P : Program} {ats : Array TypeId} {elem : TypeId} {info : TypeInfo} {z : List Value} (A : App P ats elem info z) (ty : TypeId) {base : Option Addr} {l c n : Nat} {x' : Value} {old' new' : List Value} {args' : Array Value} (q0 : args'[0]? = some (.slice base l c)) (q1 : args'[1]? = some x')
    (hlen : (Builtin.lenOf x').run P w = .ok n w) (hold : (Builtin.firstCells info.size l (.slice base l c)).run P w.drew = .ok old'.toArray w.drew) (hnew : (Builtin.firstCells info.size n x').run P w.drew = .ok new'.toArray w.drew)
    (hlt : ¬ l + n ≤ c) (hbig : (2 * (l + n) + 192) * (info.bytes + 1) ≤ 2 ^ 46) :
    ∃ k more, l + n ≤ k ∧ more.length = (k - (l + n)) * info.size ∧ (Builtin.append_ ats ty args').run P w =
      .ok (.slice (some ⟨w.heap.size, 0, none⟩) (l + n) k) (w.drew.alloc (.cells ((old' ++ new') ++ more).toArray elem)) := by
  obtain ⟨st, xt, d, e1, e2, e3, e4, e5⟩ := A.ex
  obtain ⟨zv, z1, z2⟩ := zeroT_run A.zer w.drew
  have hd : (match d with | .int _ => true | _ => false) = false := by
    cases d <;> first | rfl | exact absurd rfl (e5 _)
  have hs : (sizeOf elem).run P w = .ok info.size w := by simp [sizeOf, info_run A.inf]
  have hq : (Question.appendCap (l + n) c elem).forced = false := rfl
  refine ⟨(Question.appendCap (l + n) c elem).cut (w.tape w.drawn (.appendCap (l + n) c elem)), (Builtin.zeroCells z.toArray ((Question.appendCap (l + n) c elem).cut (w.tape w.drawn (.appendCap (l + n) c elem)) - (l + n))).toList, ?_, ?_, ?_⟩
  · simp only [Question.cut]; omega
  · simp [Builtin.zeroCells, A.len]
  have hp : 192 * info.bytes ≤ (2 * (l + n) + 192) * info.bytes := Nat.mul_le_mul_right _ (by omega)
  have hm : (2 * (l + n) + 192) * (info.bytes + 1) = (2 * (l + n) + 192) * info.bytes + (2 * (l + n) + 192) := by rw [Nat.mul_add, Nat.mul_one]
  have hb1 : ¬ ((((l + n : Nat) : Int) > IntKind.i64.max) ∧ (False ∨ info.bytes = 0)) := by
    intro hh
    have h1 := hh.1
    have : IntKind.i64.max = 9223372036854775807 := by decide
    rw [this] at h1
    omega
  have hns := nextslicecap_le (l + n) c (by omega)
  have hb2 : ¬ (Builtin.nextslicecap (l + n) c * info.bytes > 2 ^ 48) := by
    have := Nat.mul_le_mul_right info.bytes hns
    omega
  unfold Builtin.append_
  simp only [e1, e2, q0, q1, Sem.run_bind, und_run e3, Result.andThen_ok, hs, und_run e4, Sem.run_pure, hd, Bool.false_eq_true, if_false, hlen, hlt, Bool.not_false, if_true,
    info_run A.inf, hb1, hb2, run_choose, hq, run_askRoom, World.drew_eq, hold, hnew, z1, z2, newRow_run, World.size_drew]
  congr 3
  simp [Builtin.zeroCells]

/-- The block that a growing append makes. -/
theorem grow_rel (R : Rel ι h w) {old new old' new' more : List Value} (elem : TypeId) (ho : VRL ι old old') (hn : VRL ι new new') {k l size : Nat} (hk : l ≤ k) (hm : more.length = (k - l) * size) (ho2 : (old ++ new).length = l * size) :
    Rel (ι ++ [some (w.heap.size, k * size)]) (h ++ [.cells (old ++ new) elem true]) (w.alloc (.cells ((old' ++ new') ++ more).toArray elem)) := by
  have hx := ho.append hn
  have := new_rel R elem true more hx (by simp)
  have hlen : ((old' ++ new') ++ more).length = k * size := by
    rw [List.length_append, ← hx.1, ho2, hm, ← Nat.add_mul]
    congr 1; omega
  rw [hlen] at this
  exact this

theorem appendA_run (R : Rel ι h w) (P : Program) {ro : Nat} (hro : ro ≤ ι.length) {ats : Array TypeId} {args args' : Array Value} {v : Value} {h' : List Blk} (hl : appendA P ro h ats args = some (v, h')) (hx : VRL ι args.toList args'.toList) (ty : TypeId) :
    Got ro ι w v h' ((Builtin.append_ ats ty args').run P w) := by
  unfold appendA at hl
  split at hl
  case h_2 => simp at hl
  rename_i st xt base l c x e1 e2 a1 a2
  split at hl
  case h_2 => simp at hl
  rename_i elem hu
  cases hi : P.info? elem with
  | none => simp [hi] at hl
  | some info =>
  cases hz : zeroT P elem with
  | none => simp [hi, hz] at hl
  | some z =>
  cases hn : lenA x with
  | none => simp [hi, hz, hn] at hl
  | some n =>
  simp only [hi, hz, hn, Option.bind_eq_bind, Option.bind_some] at hl
  split at hl
  · simp at hl
  rename_i hcond
  simp only [Bool.or_eq_true, decide_eq_true_eq, not_or, ne_eq, Decidable.not_not, Bool.not_eq_true] at hcond
  obtain ⟨⟨⟨k1, k2⟩, k3⟩, k4⟩ := hcond
  cases hf : firstA h info.size n x with
  | none => simp [hf] at hl
  | some new =>
  simp only [hf, Option.bind_some] at hl
  split at hl
  · simp at hl
  rename_i hnn
  have hnn' : n = 0 → new = [] := by
    intro e
    subst e
    cases new with
    | nil => rfl
    | cons a b => simp at hnn
  -- the arguments
  have g1 : args.toList[0]? = some (.slice base l c) := by simpa using a1
  have g2 : args.toList[1]? = some x := by simpa using a2
  obtain ⟨s', s1, s2⟩ := hx.get g1
  obtain ⟨x', x1, x2⟩ := hx.get g2
  have q0 : args'[0]? = some s' := by simpa using s1
  have q1 : args'[1]? = some x' := by simpa using x1
  obtain ⟨d, hd⟩ : ∃ d, P.underlying xt = some d := by
    cases hq : P.underlying xt with
    | none => simp [hq] at k4
    | some d => exact ⟨d, rfl⟩
  have A : App P ats elem info z := ⟨⟨st, xt, d, e1, e2, hu, hd, fun k e => by subst e; simp [isInt, hd] at k1⟩, hi, hz, k2, by omega⟩
  have hlen := lenA_run P hn x2 w
  obtain ⟨new', n1, n2⟩ := firstA_run R P hf x2
  obtain ⟨new2, n1', n2'⟩ := firstA_run R.drew P hf x2
  have nothing : ∀ (base' : Option Addr) (c' : Nat), s' = .slice base' l c' → VR ι (.slice base l c) s' → n = 0 → l ≤ c' → Got ro ι w (.slice base l c) h ((Builtin.append_ ats ty args').run P w) := by
    intro base' c' es r e hle
    subst e
    have e0 := hnn' rfl
    subst e0
    have := n2.cases_nil
    subst this
    rw [es] at q0
    rw [append_room R A ty q0 q1 hlen n1 (by omega)]
    rw [es] at r
    cases base' with
    | none => exact Got.same R r
    | some a => exact Got.same R r
  -- a new row
  have grown : ∀ (base' : Option Addr) (c' : Nat) (old old' : List Value) (h1 : List Blk), s' = .slice base' l c' → h1.length = h.length → Rel ι h1 w.drew → (Builtin.firstCells info.size l (.slice base' l c')).run P w.drew = .ok old'.toArray w.drew → VRL ι old old' → ¬ l + n ≤ c' →
      (2 * (l + n) + 192) * (info.bytes + 1) ≤ 2 ^ 46 → (old ++ new).length = (l + n) * info.size →
      Got ro ι w (.slice (some ⟨h.length, 0, none⟩) (l + n) (unk + info.size)) (h1 ++ [.cells (old ++ new) elem true]) ((Builtin.append_ ats ty args').run P w) := by
    intro base' c' old old' h1 es hl1 R1 ho1 ho2 hlt hbig hlen2
    rw [es] at q0
    obtain ⟨k, more, m1, m2, m3⟩ := append_grow R A ty q0 q1 hlen ho1 n1' hlt hbig
    refine ⟨_, _, _, m3, grow_rel R1 elem ho2 n2' m1 m2 hlen2, (Step.alloc ro ι w.drew _ _ hro).drew_first, ?_⟩
    have := at_new ι w.heap.size (k * info.size) h R.len
    exact .wide 0 (l + n) info.size k this m1 (by omega)
  split at hl
  · -- nil
    rename_i base
    split at hl
    · rename_i hlc
      simp only [Bool.and_eq_true, decide_eq_true_eq] at hlc
      obtain ⟨rfl, rfl⟩ := hlc
      split at hl
      · rename_i hn0
        simp only [Option.some.injEq, Prod.mk.injEq] at hl
        obtain ⟨rfl, rfl⟩ := hl
        exact nothing none 0 s2.snil_inv s2 hn0 (Nat.le_refl _)
      · rename_i hn0
        split at hl
        · rename_i hb
          simp only [Bool.and_eq_true, decide_eq_true_eq, beq_iff_eq] at hb
          simp only [Option.some.injEq, Prod.mk.injEq] at hl
          obtain ⟨rfl, rfl⟩ := hl
          exact grown none 0 [] [] h s2.snil_inv rfl R.drew rfl (.nil ι) (by omega) hb.1.1 hb.1.2
        · simp at hl
    · simp at hl
  · rename_i base a
    obtain ⟨b, sz, c', hs, ha, rfl, hc⟩ := s2.slice_inv
    split at hl
    · rename_i hn0
      split at hl
      · simp at hl
      · rename_i hcl
        simp only [Option.some.injEq, Prod.mk.injEq] at hl
        obtain ⟨rfl, rfl⟩ := hl
        refine nothing _ c' rfl s2 hn0 ?_
        simp only [Bool.and_eq_true, decide_eq_true_eq, not_and, Nat.not_lt] at hcl
        rcases hc with ⟨h1, rfl⟩ | ⟨es, _, h1, _⟩
        · exact hcl h1
        · exact h1
    · rename_i hn0
      have pa : VR ι (.pointer (some (a.add (l * info.size)))) (.pointer (some ((⟨b, a.off, none⟩ : Addr).add (l * info.size)))) := .ptr_add _ hs ha
      have inplace : ∀ (h2 : List Blk), wr ro h (a.add (l * info.size)) new = some h2 → l + n ≤ c' → Got ro ι w (.slice (some a) (l + n) c) h2 ((Builtin.append_ ats ty args').run P w) := by
        intro h2 hw hle
        obtain ⟨w', w1, w2, w3⟩ := wr_run R P hw pa n2
        refine ⟨.slice (some ⟨b, a.off, none⟩) (l + n) c', w', ι, ?_, w2, w3, ?_⟩
        · rw [append_room R A ty q0 q1 hlen n1 hle]
          simp [w1]
        · obtain ⟨i, off, sp⟩ := a
          simp only at hs ha hc; subst hs
          rcases hc with ⟨h1, rfl⟩ | ⟨es, rfl, h1, h3⟩
          · exact .slice _ _ _ ha h1
          · exact .wide _ _ _ _ ha hle h3
      split at hl
      · rename_i hcu
        have hcc : c' = c := by
          rcases hc with ⟨h1, rfl⟩ | ⟨es, e, _, _⟩
          · rfl
          · omega
        subst hcc
        split at hl
        · rename_i hle
          cases hw : wr ro h (a.add (l * info.size)) new with
          | none => simp [hw] at hl
          | some h2 =>
            simp only [hw, Option.bind_some, Option.some.injEq, Prod.mk.injEq] at hl
            obtain ⟨rfl, rfl⟩ := hl
            exact inplace h2 hw hle
        · rename_i hle
          split at hl
          · cases ho : rd h a (l * info.size) with
            | none => simp [ho] at hl
            | some old =>
              simp only [ho, Option.bind_some] at hl
              split at hl
              · rename_i hb
                simp only [Bool.and_eq_true, decide_eq_true_eq, beq_iff_eq] at hb
                simp only [Option.some.injEq, Prod.mk.injEq] at hl
                obtain ⟨rfl, rfl⟩ := hl
                obtain ⟨i, off, sp⟩ := a
                simp only at hs ha; subst hs
                obtain ⟨old', o1, o2, _⟩ := rd_run R.drew P ho (.ptr off ha)
                exact grown _ c' old old' h rfl rfl R.drew o1 o2 hle hb.1.1 hb.1.2
              · simp at hl
          · simp at hl
      · rename_i hcu
        split at hl
        · simp at hl
        rename_i hce
        simp only [ne_eq, Decidable.not_not] at hce
        rcases hc with ⟨h1, _⟩ | ⟨es, he, hle, hsz⟩
        · omega
        have hes : es = info.size := by omega
        subst hes
        split at hl
        case h_2 => simp at hl
        rename_i cs e wd hb
        obtain ⟨cur, fz, r1, r2, r3, r4, r5, r6⟩ := R.blk _ _ b sz hb ha
        split at hl
        · rename_i hin
          cases hw : wr ro h (a.add (l * info.size)) new with
          | none => simp [hw] at hl
          | some h2 =>
            simp only [hw, Option.bind_some, Option.some.injEq, Prod.mk.injEq] at hl
            obtain ⟨rfl, rfl⟩ := hl
            refine inplace h2 hw ?_
            have h5 : (l + n) * info.size ≤ c' * info.size := by omega
            exact Nat.le_of_mul_le_mul_right h5 A.pos
        · split at hl
          · rename_i hm
            simp only [Bool.and_eq_true, decide_eq_true_eq] at hm
            obtain ⟨⟨⟨⟨⟨m1, m2⟩, m3⟩, m4⟩, m5⟩, m6⟩ := hm
            split at hl
            · rename_i hb2
              simp only [Bool.and_eq_true, decide_eq_true_eq, beq_iff_eq] at hb2
              simp only [Option.some.injEq, Prod.mk.injEq] at hl
              obtain ⟨rfl, rfl⟩ := hl
              obtain ⟨i, off, sp⟩ := a
              simp only at hs ha m1 hb m6 hsz; subst hs; subst m1; subst m4; subst m5
              by_cases hroom : l + n ≤ c'
              · -- in place: the block gets a new number
                have hlen2 := hb2.1.2
                rw [List.length_append, m3, Nat.add_mul] at hlen2
                have hnl : new.length = n * info.size := by omega
                have hfit : l * info.size + new'.length ≤ cur.size := by
                  rw [← n2.1, hnl, r2, ← Nat.add_mul]
                  have := Nat.mul_le_mul_right info.size hroom
                  omega
                have hok' : ∀ u ∈ new', u.oneCell' = true := by
                  intro u hu'
                  obtain ⟨k, hk⟩ := List.mem_iff_getElem?.1 hu'
                  have hk' : k < new.length := n2.1 ▸ (List.getElem?_eq_some_iff.1 hk).1
                  have r := n2.2 k new[k] u (List.getElem?_eq_getElem hk') hk
                  exact cellOk_one (r.cellOk (List.all_eq_true.1 hb2.2 _ (List.getElem_mem hk')))
                have hrun := run_storeCells_fz P b (l * info.size) e fz new' 0 cur w r1 (by rw [r2]; exact r5) (by omega) hok'
                simp only [Nat.add_zero] at hrun
                refine ⟨.slice (some ⟨b, 0, none⟩) (l + n) c', w.setRow b (cur.toList.take (l * info.size) ++ new' ++ cur.toList.drop (l * info.size + new'.length)).toArray, ι ++ [some (b, sz)], ?_, R.move hb rfl ha ?_ (fun c hc => setRow_other w b _ hc), Step.move m6 hro ha rfl rfl rfl (setRow_size w b _) (fun c hc => setRow_other w b _ hc), ?_⟩
                · rw [append_room R A ty q0 q1 hlen n1 hroom]
                  simp only [add_at, Nat.zero_add, hrun, Result.andThen_ok]
                · refine ⟨_, fz, setRow_heap w b cur _ e fz r1, ?_, ?_, by simp, r5, ?_⟩
                  · simp; omega
                  · have := n2.1
                    simp; omega
                  · have hx2 : VRL (ι ++ [some (b, sz)]) (cs ++ new) (cur.toList.take cs.length ++ new') := (r6.append n2).mono (Le.snoc ι _)
                    have he2 : ((cur.toList.take (l * info.size) ++ new' ++ cur.toList.drop (l * info.size + new'.length)).toArray.toList.take (cs ++ new).length) = cur.toList.take cs.length ++ new' := by
                      have hl3 : (cur.toList.take (l * info.size) ++ new').length = (cs ++ new).length := by
                        have := n2.1
                        simp; omega
                      simp only []
                      rw [← hl3, List.take_left, m3]
                    rw [he2]
                    exact hx2
                · exact .wide 0 _ _ _ (at_new ι _ _ h R.len) hroom (by omega)
              · have ho := rd_run R.drew P (a := ⟨i, 0, none⟩) (n := l * info.size) (vs := cs) (by
                  unfold rd
                  simp only [Option.isSome_none, Bool.false_eq_true, if_false, hb]
                  rw [← m3]
                  simp) (.ptr 0 ha)
                obtain ⟨old', o1, o2, _⟩ := ho
                exact grown _ c' cs old' _ rfl (by simp) (R.drew.kill i) o1 o2 hroom hb2.1.1 hb2.1.2
            · simp at hl
          · simp at hl

theorem copyA_run (R : Rel ι h w) (P : Program) {ro : Nat} {ats : Array TypeId} {args args' : Array Value} {v : Value} {h' : List Blk} (hl : copyA P ro h ats args = some (v, h')) (hx : VRL ι args.toList args'.toList) (ty : TypeId) :
    Got ro ι w v h' ((Builtin.copy_ ats ty args').run P w) := by
  unfold copyA at hl
  split at hl
  case h_2 => simp at hl
  rename_i st base dl c x e1 a1 a2
  split at hl
  case h_2 => simp at hl
  rename_i elem hu
  cases hs : sizeT P elem with
  | none => simp [hs] at hl
  | some size =>
  cases hn : lenA x with
  | none => simp [hs, hn] at hl
  | some sl =>
  simp only [hs, hn, Option.bind_eq_bind, Option.bind_some] at hl
  cases hf : firstA h size (Nat.min sl dl) x with
  | none => simp [hf] at hl
  | some new =>
  simp only [hf, Option.bind_some] at hl
  have g1 : args.toList[0]? = some (.slice base dl c) := by simpa using a1
  have g2 : args.toList[1]? = some x := by simpa using a2
  obtain ⟨s', s1, s2⟩ := hx.get g1
  obtain ⟨x', x1, x2⟩ := hx.get g2
  have q0 : args'[0]? = some s' := by simpa using s1
  have q1 : args'[1]? = some x' := by simpa using x1
  have hlen := lenA_run P hn x2 w
  obtain ⟨new', n1, n2⟩ := firstA_run R P hf x2
  split at hl
  · simp only [Option.some.injEq, Prod.mk.injEq] at hl
    obtain ⟨rfl, rfl⟩ := hl
    have := s2.snil_inv
    subst this
    have : (Builtin.copy_ ats ty args').run P w = .ok (goInt (Nat.min sl dl)) w := by
      unfold Builtin.copy_
      simp only [e1, q0, q1, Sem.run_bind, und_run hu, Result.andThen_ok, hlen, sizeT_run hs, n1, Sem.run_pure]
    rw [this]
    exact Got.same R (.int _ _)
  · rename_i a
    cases hw : wr ro h a new with
    | none => simp [hw] at hl
    | some h2 =>
      simp only [hw, Option.bind_some, Option.some.injEq, Prod.mk.injEq] at hl
      obtain ⟨rfl, rfl⟩ := hl
      obtain ⟨b, sz, c', hs', ha, rfl, hc⟩ := s2.slice_inv
      obtain ⟨i, off, sp⟩ := a
      simp only at hs' ha; subst hs'
      obtain ⟨w', w1, w2, w3⟩ := wr_run R P hw (.ptr off ha) n2
      refine ⟨goInt (Nat.min sl dl), w', ι, ?_, w2, w3, .int _ _⟩
      unfold Builtin.copy_
      simp only [e1, q0, q1, Sem.run_bind, und_run hu, Result.andThen_ok, hlen, sizeT_run hs, n1, Sem.run_pure, w1]

theorem lenOfA_run (R : Rel ι h w) (P : Program) {t : TypeId} {x x' v : Value} (hl : lenOfA P h t x = some v) (hx : VR ι x x') {ats : Array TypeId} {args' : Array Value} (e1 : ats[0]? = some t) (q0 : args'[0]? = some x') (ty : TypeId) :
    Got ro ι w v h ((Builtin.len_ ats ty args').run P w) := by
  have done : ∀ n : Int, v = goInt n → (Builtin.len_ ats ty args').run P w = .ok (goInt n) w → Got ro ι w v h ((Builtin.len_ ats ty args').run P w) := by
    intro n e hr
    rw [hr, e]
    exact Got.same R (.int _ _)
  unfold lenOfA at hl
  split at hl
  · rename_i s hu
    simp at hl
    cases hx
    refine done s.size hl.symm ?_
    unfold Builtin.len_
    simp only [e1, q0, Sem.run_bind, und_run hu, Result.andThen_ok, Sem.run_pure]
  · rename_i n e hu
    simp at hl
    refine done n hl.symm ?_
    unfold Builtin.len_
    simp only [e1, q0, Sem.run_bind, und_run hu, Result.andThen_ok, Sem.run_pure]
  · rename_i e a n c hu
    simp at hl
    refine done n hl.symm ?_
    unfold Builtin.len_
    cases a with
    | none =>
      have := hx.snil_inv
      subst this
      simp only [e1, q0, Sem.run_bind, und_run hu, Result.andThen_ok, Sem.run_pure]
    | some a =>
      obtain ⟨b, sz, c', _, _, rfl, _⟩ := hx.slice_inv
      simp only [e1, q0, Sem.run_bind, und_run hu, Result.andThen_ok, Sem.run_pure]
  · rename_i k e hu
    simp at hl
    cases hx
    refine done 0 hl.symm ?_
    unfold Builtin.len_
    simp only [e1, q0, Sem.run_bind, und_run hu, Result.andThen_ok, Sem.run_pure]
  · rename_i k e r hu
    split at hl
    · rename_i es clock hb
      simp at hl
      cases hx with
      | @map i b sz ha =>
        obtain ⟨o', h1, h2⟩ := R.blk _ _ b sz hb ha
        cases h2 with
        | @map _ es' _ hes =>
          refine done es.size hl.symm ?_
          unfold Builtin.len_
          have : (getObj b).run P w = .ok (.map es' clock) w := by simp [getObj, Sem.run, h1]
          simp only [e1, q0, Sem.run_bind, und_run hu, Result.andThen_ok, Sem.run_pure, this]
          have := hes.1
          simp at this
          rw [this]
    · simp at hl
  · rename_i arr p hu
    split at hl
    · rename_i n e hu2
      simp at hl
      have hp : ∃ p', x' = .pointer p' := by cases hx <;> exact ⟨_, rfl⟩
      obtain ⟨p', rfl⟩ := hp
      refine done n hl.symm ?_
      unfold Builtin.len_
      simp only [e1, q0, Sem.run_bind, und_run hu, und_run hu2, Result.andThen_ok, Sem.run_pure]
    · simp at hl
  · simp at hl

theorem capOfA_run (R : Rel ι h w) (P : Program) {t : TypeId} {x x' v : Value} (hl : capOfA P t x = some v) (hx : VR ι x x') {ats : Array TypeId} {args' : Array Value} (e1 : ats[0]? = some t) (q0 : args'[0]? = some x') (ty : TypeId) :
    Got ro ι w v h ((Builtin.cap_ ats ty args').run P w) := by
  have done : ∀ n : Int, v = goInt n → (Builtin.cap_ ats ty args').run P w = .ok (goInt n) w → Got ro ι w v h ((Builtin.cap_ ats ty args').run P w) := by
    intro n e hr
    rw [hr, e]
    exact Got.same R (.int _ _)
  unfold capOfA at hl
  split at hl
  · rename_i n e hu
    simp at hl
    refine done n hl.symm ?_
    unfold Builtin.cap_
    simp only [e1, q0, Sem.run_bind, und_run hu, Result.andThen_ok, Sem.run_pure]
  · rename_i e l n hu
    simp at hl
    have := hx.snil_inv
    subst this
    refine done n hl.symm ?_
    unfold Builtin.cap_
    simp only [e1, q0, Sem.run_bind, und_run hu, Result.andThen_ok, Sem.run_pure]
  · rename_i e a l n hu
    split at hl
    · rename_i hn
      simp at hl
      obtain ⟨b, sz, c', _, _, rfl, hc⟩ := hx.slice_inv
      have : c' = n := by
        rcases hc with ⟨_, rfl⟩ | ⟨es, e, _, _⟩
        · rfl
        · omega
      subst this
      refine done c' hl.symm ?_
      unfold Builtin.cap_
      simp only [e1, q0, Sem.run_bind, und_run hu, Result.andThen_ok, Sem.run_pure]
    · simp at hl
  · simp at hl

theorem bytesOf_spec : ∀ (l : List Value) (r : List UInt8), bytesOf l = some r → ∃ ns : List Int, l = ns.map (Value.int .u8) ∧ r = ns.map fun n => UInt8.ofNat n.toNat
  | [], r, hl => by simp [bytesOf] at hl; subst hl; exact ⟨[], rfl, rfl⟩
  | .int .u8 n :: l, r, hl => by
    simp only [bytesOf, Option.bind_eq_bind] at hl
    cases hb : bytesOf l with
    | none => simp [hb] at hl
    | some r' =>
      simp [hb] at hl
      obtain ⟨ns, h1, h2⟩ := bytesOf_spec l r' hb
      exact ⟨n :: ns, by simp [h1], by simp [← hl, h2]⟩
  | .int .i8 n :: l, r, hl | .int .i16 n :: l, r, hl | .int .i32 n :: l, r, hl | .int .i64 n :: l, r, hl | .int .u16 n :: l, r, hl | .int .u32 n :: l, r, hl | .int .u64 n :: l, r, hl
  | .bool _ :: l, r, hl | .float .. :: l, r, hl | .complex .. :: l, r, hl | .string _ :: l, r, hl | .pointer _ :: l, r, hl | .slice .. :: l, r, hl | .map _ :: l, r, hl | .chan _ :: l, r, hl
  | .func .. :: l, r, hl | .nilFunc :: l, r, hl | .iface .. :: l, r, hl | .nilIface :: l, r, hl | .agg _ :: l, r, hl | .tuple _ :: l, r, hl => by simp [bytesOf] at hl

theorem push_fold (ns : List Int) : ∀ (s : ByteArray), ns.foldl (fun r n => r.push (UInt8.ofNat n.toNat)) s = ⟨(s.data.toList ++ ns.map fun n => UInt8.ofNat n.toNat).toArray⟩ := by
  induction ns with
  | nil => intro s; simp
  | cons n ns ih =>
    intro s
    rw [List.foldl_cons, ih]
    congr 1
    simp [ByteArray.push]

theorem VRL.ints {k : IntKind} {ns : List Int} {l : List Value} (hv : VRL ι (ns.map (Value.int k)) l) : l = ns.map (Value.int k) := by
  induction ns generalizing l with
  | nil => exact hv.cases_nil
  | cons n ns ih =>
    obtain ⟨b, t, rfl, h1, h2⟩ := hv.cases_cons
    rw [h1.int_inv, ih h2]; rfl

theorem freeze_new (w : World) (c : Array Value) (e : TypeId) (n : Nat) : (w.alloc (.cells c e)).freeze ⟨w.heap.size, n, none⟩ 1 = w.alloc (.cells c e (n, n + 1)) := by
  unfold World.freeze World.alloc
  simp only [Nat.one_ne_zero, if_false]
  congr 1
  apply Array.ext
  · simp
  · intro i h1 h2
    simp only [Array.size_modify, Array.size_push] at h1
    simp only [Array.getElem_modify, Array.getElem_push]
    by_cases hi : i < w.heap.size
    · have : ¬ w.heap.size = i := by omega
      simp [hi, this]
    · have : w.heap.size = i := by omega
      simp [this]

theorem convertA_run (R : Rel ι h w) (P : Program) {ro : Nat} (hro : ro ≤ ι.length) {s d : TypeId} {x x' v : Value} {h' : List Blk} (hl : convertA P h s d x = some (v, h')) (hx : VR ι x x') :
    Got ro ι w v h' ((convert s d x').run P w) := by
  unfold convertA at hl
  split at hl
  · rename_i e str hu1 hu2
    cases hx
    split at hl
    · rename_i hu3
      split at hl
      · rename_i hlen
        simp only [Option.some.injEq, Prod.mk.injEq] at hl
        obtain ⟨rfl, rfl⟩ := hl
        have hq : (Question.appendCap str.size 0 e).forced = false := rfl
        generalize hk : (Question.appendCap str.size 0 e).cut (w.tape w.drawn (.appendCap str.size 0 e)) = k
        have hkl : str.size ≤ k := by rw [← hk]; simp only [Question.cut]; omega
        generalize harr : ((str.data.map fun b => (Value.int .u8 b.toNat)) ++ Array.replicate (k - str.size) (.int .u8 0)) = arr
        have hsz : arr.size = k := by rw [← harr]; simp; omega
        have hrun : (convert s d (.string str)).run P w = .ok (.slice (some ⟨w.heap.size, 0, none⟩) str.size k) (w.drew.alloc (.cells arr e (k, k + 1))) := by
          unfold convert
          simp only [Sem.run_bind, und_run hu1, und_run hu2, Result.andThen_ok, und_run hu3]
          unfold Conv.stringToBytes
          simp only [Sem.run_bind, run_choose, hq, if_false, Bool.false_eq_true, Result.andThen_ok, hk, World.drew_eq, newRow_run, harr, World.size_drew, markStringish, run_shape, Sem.run_pure]
          have hsh : (w.drew.alloc (.cells arr e)).shape? w.heap.size = some (e, k) := by
            unfold World.shape?
            have := heap_alloc_self w.drew (.cells arr e)
            rw [World.size_drew] at this
            rw [this]
            simp [hsz]
          rw [hsh]
          simp only [run_freeze, Result.andThen_ok]
          have := freeze_new w.drew arr e k
          rw [World.size_drew] at this
          rw [this]
        rw [hrun]
        refine ⟨_, _, _, rfl, R.drew.alloc _ _ k ?_, (Step.alloc ro ι w.drew _ k hro).drew_first, ?_⟩
        · refine ⟨arr, (k, k + 1), heap_alloc_self w.drew _, hsz, ?_, by simp, fun off ho => by omega, ?_⟩
          · simp only [List.length_map, Array.length_toList]
            have : str.data.size = str.size := rfl
            omega
          · have : arr.toList.take (str.data.toList.map fun b => (Value.int .u8 b.toNat)).length = str.data.toList.map fun b => (Value.int .u8 b.toNat) := by
              rw [← harr]
              simp
            rw [this]
            exact VRL.of_map _ _ _ fun b _ => .int _ _
        · exact .wide 0 str.size 1 k (at_new ι _ _ h R.len) hkl (by omega)
      · simp at hl
    · simp at hl
  · rename_i e a len c hu1 hu2
    split at hl
    · rename_i hu3
      cases hr : rd h a len with
      | none => simp [hr] at hl
      | some cs =>
        simp only [hr, Option.bind_eq_bind, Option.bind_some] at hl
        cases hb : bytesOf cs with
        | none => simp [hb] at hl
        | some l =>
          simp only [hb, Option.bind_some, Option.some.injEq, Prod.mk.injEq] at hl
          obtain ⟨rfl, rfl⟩ := hl
          obtain ⟨b, sz, c', hs, ha, rfl, _⟩ := hx.slice_inv
          obtain ⟨i, off, sp⟩ := a
          simp only at hs ha; subst hs
          obtain ⟨cs', h1, h2, _⟩ := rd_run R P hr (.ptr off ha)
          obtain ⟨ns, e1, e2⟩ := bytesOf_spec cs l hb
          rw [e1] at h2
          rw [h2.ints] at h1
          have hrun := run_bytesToString (P := P) w ⟨b, off, none⟩ len c' ns h1
          have : (convert s d (.slice (some ⟨b, off, none⟩) len c')).run P w = .ok (.string ⟨l.toArray⟩) w := by
            unfold convert
            simp only [Sem.run_bind, und_run hu1, und_run hu2, Result.andThen_ok, und_run hu3, hrun, push_fold]
            rw [e2]
            rfl
          rw [this]
          exact Got.same R (.string _)
    · simp at hl
  · simp at hl

end Sx
end Go.Proofs.YtmfejegpnfbajaaGreatDoor
